/- Rules for single operations. No program in sight. -/
import Derived.Test.YtmhcjafkdmcgoaaDoorKrB
import Derived.Laws.Small
namespace Go.Kr
open Go Go.RowKit
set_option linter.unusedVariables false
set_option linter.unusedSimpArgs false
variable {dl : List Deferred} {P : Program} {ops : Array Oper} {Q : Exit → Act → World → Prop} {rest : List Oper} {n : Nat} {l l' : Ov} {w w0 : World}
variable {d : Nat} {ty t t' : TypeId} {pos : String} {af : Array Edge} {g : Option (Nat × Bool)} {v : Value} {X Y Z : Operand} {k k' : IntKind} {x y z : Int} {L : List En}
theorem not_t {b : Bool} (h : b = false) : (!b) = true := by rw [h]; rfl
theorem not_f {b : Bool} (h : b = true) : (!b) = false := by rw [h]; rfl
def Wanted (ops : Array Oper) (g : Option (Nat × Bool)) (n : Nat) (l : Ov) (b : Bool) : Prop :=
 ∀ a : Act, a.tmps.size = n → (match g with | none => true | some (j, want) => yielded ops (ov a l).tmps j == some want) = b
theorem Wanted.none : Wanted ops Option.none n l true := fun _ _ => rfl
theorem Wanted.guard {j dj : Nat} {want c : Bool} (hj : (ops[j]?).bind (·.dst) = some dj) (hv : ev n l (.tmp dj) = some (.bool c)) {b : Bool} (hb : (c == want) = b) : Wanted ops (some (j, want)) n l b := fun a ha => by
 have hv' := hv
 simp only [ev] at hv'
 cases hq : Nat.blt dj n
 ·simp [hq] at hv'
 simp only [hq, cond_true] at hv'
 have := ov_get a ha (blt_of hq) l _ hv'
 simp only [yielded, hj, Option.bind_some, this]
 subst hb
 cases c <;> cases want <;> rfl
theorem Wanted.undef {j dj : Nat} {want : Bool} (hj : (ops[j]?).bind (·.dst) = some dj) (hv : ev n l (.tmp dj) = some undef) : Wanted ops (some (j, want)) n l false := fun a ha => by
 have hv' := hv
 simp only [ev] at hv'
 cases hq : Nat.blt dj n
 ·simp [hq] at hv'
 simp only [hq, cond_true] at hv'
 have := ov_get a ha (blt_of hq) l _ hv'
 simp only [yielded, hj, Option.bind_some, this, undef]
 rfl
theorem WL.go {o : Oper} (hw : Wanted ops o.guard n l true) (h : ∀ b : Act, b.tmps.size = n → b.defers = dl → ∀ K : Act → World → Prop, (∀ a w, wpList P ops Q rest a w → K a w) → o.wp P (ov b l) w K Q) : WL dl P ops Q (o :: rest) n l w := fun b hb hd =>
 wpList_step fun K hK => by
  have := hw b hb
  have hwant : Region.wanted o (yielded ops (ov b l).tmps) = true := this
  rw [hwant, if_pos rfl]
  exact h b hb hd K hK
theorem WL.off {op : Op} (hw : Wanted ops g n l false) (h : WL dl P ops Q rest n ((d, undef) :: l) w) : WL dl P ops Q (⟨some d, op, ty, pos, af, g⟩ :: rest) n l w := fun b hb hd =>
 wpList_step fun K hK => by
  have hwant : Region.wanted (⟨some d, op, ty, pos, af, g⟩ : Oper) (yielded ops (ov b l).tmps) = false := hw b hb
  rw [hwant]
  exact hK _ _ (h b hb hd)
theorem WL.on {dd : Option Nat} {op : Op} (hw : Wanted ops g n l true) (h : WL dl P ops Q (⟨dd, op, ty, pos, af, none⟩ :: rest) n l w) : WL dl P ops Q (⟨dd, op, ty, pos, af, g⟩ :: rest) n l w := fun b hb hd => by
 have h1 := h b hb hd
 have hwant : Region.wanted (⟨dd, op, ty, pos, af, g⟩ : Oper) (yielded ops (ov b l).tmps) = true := hw b hb
 unfold wpList at h1 ⊢
 rw [hwant, if_pos rfl]
 exact h1
def Runs (P : Program) (op : Op) (ty : TypeId) (n : Nat) (l : Ov) (w : World) (v : Value) : Prop :=
 ∀ (ρ : Operand → Value) (d : Option Nat) (pos : String) (af : Array Edge) (g : Option (Nat × Bool)), (∀ x u, ev n l x = some u → ρ x = u) → (execOp ρ ⟨d, op, ty, pos, af, g⟩).run P w = .ok (.value v) w
theorem WL.val {op : Op} (hw : Wanted ops g n l true) (hr : Runs P op ty n l w v) (h : WL dl P ops Q rest n ((d, v) :: l) w) : WL dl P ops Q (⟨some d, op, ty, pos, af, g⟩ :: rest) n l w :=
 WL.go hw fun b hb hd K hK => by
  unfold Oper.wp
  rw [hr _ _ _ _ _ (fun x u hx => ev_sound hb hx)]
  exact hK _ _ (h b hb hd)
theorem Runs.move (hx : ev n l X = some v) : Runs P (.move X) ty n l w v := fun ρ _ _ _ _ hρ => by rw [← hρ X v hx]; rfl
theorem Runs.assign (hx : ev n l X = some v) : Runs P (.assign X) ty n l w v := fun ρ _ _ _ _ hρ => by rw [← hρ X v hx]; rfl
theorem Runs.pick_t (hx : ev n l X = some (.bool true)) (hy : ev n l Y = some v) : Runs P (.pick X Y Z) ty n l w v := fun ρ _ _ _ _ hρ => by
 have h1 := hρ _ _ hx; have h2 := hρ _ _ hy
 simp [execOp, h1, h2, asBool]
theorem Runs.pick_f (hx : ev n l X = some (.bool false)) (hy : ev n l Z = some v) : Runs P (.pick X Y Z) ty n l w v := fun ρ _ _ _ _ hρ => by
 have h1 := hρ _ _ hx; have h2 := hρ _ _ hy
 simp [execOp, h1, h2, asBool]
section ints
variable (hx : ev n l X = some (.int k x)) (hy : ev n l Y = some (.int k y))
include hx hy
theorem Runs.add (hz : z = k.wrap (x + y)) : Runs P (.binOp .add t X Y t') ty n l w (.int k z) := fun ρ _ _ _ _ hρ => by
 have h1 := hρ _ _ hx; have h2 := hρ _ _ hy; subst hz; simp [execOp, h1, h2, eqGuard, binOp, Op.intArith]
theorem Runs.sub (hz : z = k.wrap (x - y)) : Runs P (.binOp .sub t X Y t') ty n l w (.int k z) := fun ρ _ _ _ _ hρ => by
 have h1 := hρ _ _ hx; have h2 := hρ _ _ hy; subst hz; simp [execOp, h1, h2, eqGuard, binOp, Op.intArith]
theorem Runs.mul (hz : z = k.wrap (x * y)) : Runs P (.binOp .mul t X Y t') ty n l w (.int k z) := fun ρ _ _ _ _ hρ => by
 have h1 := hρ _ _ hx; have h2 := hρ _ _ hy; subst hz; simp [execOp, h1, h2, eqGuard, binOp, Op.intArith]
theorem Runs.quo (hne : y ≠ 0) (hz : z = k.wrap (x.tdiv y)) : Runs P (.binOp .quo t X Y t') ty n l w (.int k z) := fun ρ _ _ _ _ hρ => by
 have h1 := hρ _ _ hx; have h2 := hρ _ _ hy; subst hz; simp [execOp, h1, h2, eqGuard, binOp, Op.intDiv, hne]
theorem Runs.rem (hne : y ≠ 0) (hz : z = x.tmod y) : Runs P (.binOp .rem t X Y t') ty n l w (.int k z) := fun ρ _ _ _ _ hρ => by
 have h1 := hρ _ _ hx; have h2 := hρ _ _ hy; subst hz; simp [execOp, h1, h2, eqGuard, binOp, Op.intDiv, hne]
theorem Runs.band (hz : z = bits .and k x y) : Runs P (.binOp .and t X Y t') ty n l w (.int k z) := fun ρ _ _ _ _ hρ => by
 have h1 := hρ _ _ hx; have h2 := hρ _ _ hy; subst hz; simp [execOp, h1, h2, eqGuard, binOp, Op.intBits, bits]
theorem Runs.bor (hz : z = bits .or k x y) : Runs P (.binOp .or t X Y t') ty n l w (.int k z) := fun ρ _ _ _ _ hρ => by
 have h1 := hρ _ _ hx; have h2 := hρ _ _ hy; subst hz; simp [execOp, h1, h2, eqGuard, binOp, Op.intBits, bits]
theorem Runs.bxor (hz : z = bits .xor k x y) : Runs P (.binOp .xor t X Y t') ty n l w (.int k z) := fun ρ _ _ _ _ hρ => by
 have h1 := hρ _ _ hx; have h2 := hρ _ _ hy; subst hz; simp [execOp, h1, h2, eqGuard, binOp, Op.intBits, bits]
theorem Runs.eql {b : Bool} (hz : (x == y) = b) : Runs P (.binOp .eql t X Y t') ty n l w (.bool b) := fun ρ _ _ _ _ hρ => by
 have h1 := hρ _ _ hx; have h2 := hρ _ _ hy; subst hz; simp [execOp, h1, h2, eqGuard, binOp, Op.intCmp]
theorem Runs.neq {b : Bool} (hz : (x != y) = b) : Runs P (.binOp .neq t X Y t') ty n l w (.bool b) := fun ρ _ _ _ _ hρ => by
 have h1 := hρ _ _ hx; have h2 := hρ _ _ hy; subst hz; simp [execOp, h1, h2, eqGuard, binOp, Op.intCmp]
theorem Runs.lss {b : Bool} (hz : decide (x < y) = b) : Runs P (.binOp .lss t X Y t') ty n l w (.bool b) := fun ρ _ _ _ _ hρ => by
 have h1 := hρ _ _ hx; have h2 := hρ _ _ hy; subst hz; simp [execOp, h1, h2, eqGuard, binOp, Op.intCmp]
theorem Runs.leq {b : Bool} (hz : decide (x ≤ y) = b) : Runs P (.binOp .leq t X Y t') ty n l w (.bool b) := fun ρ _ _ _ _ hρ => by
 have h1 := hρ _ _ hx; have h2 := hρ _ _ hy; subst hz; simp [execOp, h1, h2, eqGuard, binOp, Op.intCmp]
theorem Runs.gtr {b : Bool} (hz : decide (x > y) = b) : Runs P (.binOp .gtr t X Y t') ty n l w (.bool b) := fun ρ _ _ _ _ hρ => by
 have h1 := hρ _ _ hx; have h2 := hρ _ _ hy; subst hz; simp [execOp, h1, h2, eqGuard, binOp, Op.intCmp]
theorem Runs.geq {b : Bool} (hz : decide (x ≥ y) = b) : Runs P (.binOp .geq t X Y t') ty n l w (.bool b) := fun ρ _ _ _ _ hρ => by
 have h1 := hρ _ _ hx; have h2 := hρ _ _ hy; subst hz; simp [execOp, h1, h2, eqGuard, binOp, Op.intCmp]
end ints
def shlI (k : IntKind) (x y : Int) : Int := k.wrap (x * 2 ^ (min y.toNat k.bits))
def shrI (k : IntKind) (x y : Int) : Int := x.fdiv (2 ^ (min y.toNat k.bits))
theorem Runs.shl (hx : ev n l X = some (.int k x)) (hy : ev n l Y = some (.int k' y)) (h0 : 0 ≤ y) (hz : z = shlI k x y) : Runs P (.binOp .shl t X Y t') ty n l w (.int k z) := fun ρ _ _ _ _ hρ => by
 have h1 := hρ _ _ hx; have h2 := hρ _ _ hy; subst hz
 have h3 : ¬ y < 0 := by omega
 simp [execOp, h1, h2, eqGuard, binOp, Op.shift, h3, shlI]
theorem Runs.shr (hx : ev n l X = some (.int k x)) (hy : ev n l Y = some (.int k' y)) (h0 : 0 ≤ y) (hz : z = shrI k x y) : Runs P (.binOp .shr t X Y t') ty n l w (.int k z) := fun ρ _ _ _ _ hρ => by
 have h1 := hρ _ _ hx; have h2 := hρ _ _ hy; subst hz
 have h3 : ¬ y < 0 := by omega
 simp [execOp, h1, h2, eqGuard, binOp, Op.shift, h3, shrI]
theorem Runs.neg (hx : ev n l X = some (.int k x)) (hz : z = k.wrap (0 - x)) : Runs P (.unOp .neg t X) ty n l w (.int k z) := fun ρ _ _ _ _ hρ => by
 have h1 := hρ _ _ hx; subst hz; simp [execOp, h1, Op.unary, Op.intArith]
def notI (k : IntKind) (x : Int) : Int := bits .xor k (if k.signed then -1 else k.max) x
theorem Runs.compl (hx : ev n l X = some (.int k x)) (hz : z = notI k x) : Runs P (.unOp .xor t X) ty n l w (.int k z) := fun ρ _ _ _ _ hρ => by
 have h1 := hρ _ _ hx; subst hz; simp [execOp, h1, Op.unary, Op.intBits, notI, bits]
theorem Runs.not {b c : Bool} (hx : ev n l X = some (.bool b)) (hc : (!b) = c) : Runs P (.unOp .not t X) ty n l w (.bool c) := fun ρ _ _ _ _ hρ => by
 have h1 := hρ _ _ hx; subst hc; simp [execOp, h1, Op.unary]
theorem Runs.neb {a b c : Bool} (hu : P.underlying t = some .bool) (hx : ev n l X = some (.bool a)) (hy : ev n l Y = some (.bool b)) (hc : (a != b) = c) : Runs P (.binOp .neq t X Y t') ty n l w (.bool c) := fun ρ _ _ _ _ hρ => by
 have h1 := hρ _ _ hx; have h2 := hρ _ _ hy; subst hc; simp [execOp, h1, h2, eqGuard, binOp, Op.equal, Op.maxDepth, run_equalIn_bool' _ _ _ _ _ hu]; cases a <;> cases b <;> rfl
theorem Runs.nes {a b : ByteArray} {c : Bool} (hx : ev n l X = some (.string a)) (hy : ev n l Y = some (.string b)) (hc : (!(a.toList == b.toList)) = c) : Runs P (.binOp .neq t X Y t') ty n l w (.bool c) := fun ρ _ _ _ _ hρ => by
 have h1 := hρ _ _ hx; have h2 := hρ _ _ hy; subst hc; simp [execOp, h1, h2, eqGuard, binOp, Op.stringOp]
theorem Runs.conv (hu : P.underlying t' = some (.int k')) (ht : ∃ d, P.underlying t = some d) (hx : ev n l X = some (.int k x)) (hz : z = k'.wrap x) : Runs P (.convert t t' X) ty n l w (.int k' z) := fun ρ _ _ _ _ hρ => by
 have h1 := hρ _ _ hx; subst hz; obtain ⟨dd, hd⟩ := ht
 simp [execOp, h1, convert, run_underlying hu, run_underlying hd, Conv.intToInt]
theorem Runs.len_sl {A : Option Addr} {m c : Nat} {t2 e : TypeId} (hu : P.underlying t2 = some (.slice e)) (hx : ev n l X = some (.slice A m c)) (hz : z = (m : Int)) : Runs P (.call { callee := .builtin .len, args := #[X], argTypes := #[t2] }) ty n l w (.int .i64 z) := fun ρ _ _ _ _ hρ => by
 have h1 := hρ _ _ hx; subst hz
 simp [execOp, resolve, invoke, builtin, Builtin.len_, h1, goInt, run_underlying hu]
theorem Runs.len_str {s : ByteArray} {t2 : TypeId} (hu : P.underlying t2 = some .string) (hx : ev n l X = some (.string s)) : Runs P (.call { callee := .builtin .len, args := #[X], argTypes := #[t2] }) ty n l w (.int .i64 s.size) := fun ρ _ _ _ _ hρ => by
 have h1 := hρ _ _ hx
 simp [execOp, resolve, invoke, builtin, Builtin.len_, h1, goInt, run_underlying hu]
def minI (x y : Int) : Int := if y < x then y else x
def maxI (x y : Int) : Int := if y > x then y else x
theorem Runs.min2 {t1 t2 : TypeId} (hx : ev n l X = some (.int k x)) (hy : ev n l Y = some (.int k y)) (hz : z = minI x y) : Runs P (.call { callee := .builtin .min, args := #[X, Y], argTypes := #[t1, t2] }) ty n l w (.int k z) := fun ρ _ _ _ _ hρ => by
 have h1 := hρ _ _ hx; have h2 := hρ _ _ hy; subst hz
 simp [execOp, resolve, invoke, builtin, h1, h2, run_min_int2, minI]
theorem Runs.max2 {t1 t2 : TypeId} (hx : ev n l X = some (.int k x)) (hy : ev n l Y = some (.int k y)) (hz : z = maxI x y) : Runs P (.call { callee := .builtin .max, args := #[X, Y], argTypes := #[t1, t2] }) ty n l w (.int k z) := fun ρ _ _ _ _ hρ => by
 have h1 := hρ _ _ hx; have h2 := hρ _ _ hy; subst hz
 simp [execOp, resolve, invoke, builtin, h1, h2, run_max_int2, maxI]
theorem run_eql_nilsl {A : Option Addr} {m c : Nat} {e : TypeId} (hu : P.underlying t = some (.slice e)) : (binOp .eql t (.slice A m c) (.slice none 0 0)).run P w = .ok (.bool A.isNone) w := by
 have : (Op.equal t (.slice A m c) (.slice none 0 0)).run P w = .ok A.isNone w := by
  unfold Op.equal Op.maxDepth Op.equalIn
  rw [Sem.run_bind, run_underlying hu]
  cases A <;> rfl
 show (do pure (.bool (← Op.equal t (.slice A m c) (.slice none 0 0))) : Sem Value).run P w = _
 rw [Sem.run_bind, this]
 rfl
theorem Runs.eql_nil {A : Option Addr} {m c : Nat} {e : TypeId} {b : Bool} (hu : P.underlying t = some (.slice e)) (hx : ev n l X = some (.slice A m c)) (hy : ev n l Y = some (.slice none 0 0)) (hb : A.isNone = b) : Runs P (.binOp .eql t X Y t') ty n l w (.bool b) := fun ρ _ _ _ _ hρ => by
 have h1 := hρ _ _ hx; have h2 := hρ _ _ hy; subst hb
 have h3 := run_eql_nilsl (P := P) (w := w) (A := A) (m := m) (c := c) hu
 show (do let v ← (do eqGuard .eql t X Y (ρ X) (ρ Y); binOp .eql t (ρ X) (ρ Y)); pure (Next.value v) : Sem Next).run P w = _
 rw [h1, h2]
 have h4 : (eqGuard .eql t X Y (.slice A m c) (.slice none 0 0)).run P w = .ok () w := by simp [eqGuard]
 simp only [Sem.run_bind, h4, Result.andThen_ok, h3, Sem.run_pure]
theorem info_of_cells {sz : Nat} (h : P.cellsOf t = sz) (hsz : sz ≠ 0) : ∃ i, P.info? t = some i ∧ i.size = sz := by
 unfold Program.cellsOf at h
 cases hq : P.info? t with
 | none => simp [hq] at h; exact absurd h.symm hsz
 | some i => exact ⟨i, rfl, by simpa [hq] using h⟩
theorem Runs.indexAddr {A : Option Addr} {a : Addr} {m c sz : Nat} {e : TypeId} (hu : P.underlying t = some (.slice e)) (hs : P.cellsOf e = sz) (hsz : sz ≠ 0) (hx : ev n l X = some (.slice A m c)) (hA : A = some a) (hy : ev n l Y = some (.int k y)) (h0 : 0 ≤ y) (h1 : y < m) {o : Nat} (ho : o = y.toNat * sz) :
  Runs P (.indexAddr t X Y) ty n l w (.pointer (some (a.add o))) := fun ρ _ _ _ _ hρ => by
 have e1 := hρ _ _ hx; have e2 := hρ _ _ hy; subst ho; subst hA
 obtain ⟨i, hi, hz⟩ := info_of_cells hs hsz
 simp [execOp, e1, e2, Instr.indexAt, asIntOf, run_underlying hu, h0, h1, sizeOf, typeInfo, hi, hz]
def flatT : TypeDesc → Bool
 | .struct _ => false
 | .array _ _ => false
 | _ => true
def OneCell (P : Program) (t : TypeId) : Prop := ∃ d, P.underlying t = some d ∧ flatT d = true
theorem OneCell.of {t : TypeId} {dd : TypeDesc} (h : P.underlying t = some dd) (hf : flatT dd = true) : OneCell P t := ⟨dd, h, hf⟩
theorem Runs.load {a : Addr} (ht : OneCell P t) (hx : ev n l X = some (.pointer (some a))) (hc : w.cell? a = some v) : Runs P (.load t X) ty n l w v := fun ρ _ _ _ _ hρ => by
 have e1 := hρ _ _ hx
 obtain ⟨dd, hd, hf⟩ := ht
 have : (isAgg t).run P w = .ok false w := by
  cases dd <;> simp_all [isAgg, run_underlying hd, flatT]
 simp [execOp, e1, Instr.loadAt, Instr.sureAddr, loadVar, this, load, Sem.run, hc]
theorem Runs.extract {vs : Array Value} {i : Nat} (hx : ev n l X = some (.tuple vs)) (hv : vs[i]? = some v) : Runs P (.extract X i) ty n l w v := fun ρ _ _ _ _ hρ => by
 have e1 := hρ _ _ hx
 simp [execOp, e1, Instr.extract, hv]
def iv (k : IntKind) (xs : List Int) : List Value := xs.map (Value.int k)
def bv (xs : List Bool) : List Value := xs.map Value.bool
def gn (xs : List Int) (j : Nat) : Int := xs.getD j 0
def gb (xs : List Bool) (j : Nat) : Bool := xs.getD j false
def gl (xs : List (List Int)) (j : Nat) : List Int := xs.getD j []
theorem iv_get {k : IntKind} {xs : List Int} {j : Nat} (h : j < xs.length) : (iv k xs)[j]? = some (.int k (gn xs j)) := by
 simp [iv, gn, List.getElem?_eq_getElem h, List.getD_eq_getElem?_getD]
theorem bv_get {xs : List Bool} {j : Nat} (h : j < xs.length) : (bv xs)[j]? = some (.bool (gb xs j)) := by
 simp [bv, gb, List.getElem?_eq_getElem h, List.getD_eq_getElem?_getD]
variable {A : Option Addr} {W : World}
theorem Src.addr_iv {xs : List Int} (h : Src W A (iv k xs)) (j : Nat) (hj : j < xs.length) : ∃ a, A = some a := by
 obtain ⟨a, ha, _⟩ := h j _ (iv_get hj); exact ⟨a, ha⟩
theorem Src.addr_bv {xs : List Bool} (h : Src W A (bv xs)) (j : Nat) (hj : j < xs.length) : ∃ a, A = some a := by
 obtain ⟨a, ha, _⟩ := h j _ (bv_get hj); exact ⟨a, ha⟩
theorem Src.cell_iv {xs : List Int} (h : Src W A (iv k xs)) {a : Addr} (hA : A = some a) {j : Nat} (hj : j < xs.length) : W.cell? (a.add j) = some (.int k (gn xs j)) := by
 obtain ⟨a', ha, hc⟩ := h j _ (iv_get hj); rw [hA] at ha; cases ha; exact hc
theorem Src.cell_bv {xs : List Bool} (h : Src W A (bv xs)) {a : Addr} (hA : A = some a) {j : Nat} (hj : j < xs.length) : W.cell? (a.add j) = some (.bool (gb xs j)) := by
 obtain ⟨a', ha, hc⟩ := h j _ (bv_get hj); rw [hA] at ha; cases ha; exact hc
def RowsOf (W : World) (k : IntKind) (A : Option Addr) (ls : List (List Int)) : Prop :=
 ∀ j, j < ls.length → ∃ a A' n' c', A = some a ∧ W.cell? (a.add j) = some (.slice A' n' c') ∧ n' = (gl ls j).length ∧ n' ≤ c' ∧ Src W A' (iv k (gl ls j))
theorem RowsOf.nil (W : World) (k : IntKind) (A : Option Addr) : RowsOf W k A [] := fun j hj => by simp at hj
theorem RowsOf.get {ls : List (List Int)} (h : RowsOf W k A ls) (j : Nat) (hj : j < ls.length) : ∃ a A' n' c', A = some a ∧ W.cell? (a.add j) = some (.slice A' n' c') ∧ n' = (gl ls j).length ∧ n' ≤ c' ∧ Src W A' (iv k (gl ls j)) := h j hj
theorem St.up (st : St w0 W L) {a : Addr} {v : Value} (h : w0.cell? a = some v) : W.cell? a = some v := by
 rw [st.ext.cell (World.block_lt_of_cell? w0 _ h)]; exact h
theorem RowsOf.ext {ls : List (List Int)} (h : RowsOf w0 k A ls) (st : St w0 W L) : RowsOf W k A ls := fun j hj => by
 obtain ⟨a, A', n', c', ha, hc, hn, hcap, hs⟩ := h j hj
 exact ⟨a, A', n', c', ha, st.up hc, hn, hcap, hs.ext st⟩
theorem RowsOf.lit {ls : List (List Int)} {vs : List Value} (h : Src W A vs) (hl : vs.length = ls.length) (hv : ∀ j, j < ls.length → ∃ A' n' c', vs[j]? = some (.slice A' n' c') ∧ n' = (gl ls j).length ∧ n' ≤ c' ∧ Src W A' (iv k (gl ls j))) : RowsOf W k A ls := fun j hj => by
 obtain ⟨A', n', c', h1, h2, h3, h4⟩ := hv j hj
 obtain ⟨a, ha, hc⟩ := h j _ h1
 exact ⟨a, A', n', c', ha, hc, h2, h3, h4⟩
theorem St.below (st : St w0 W L) {W' : World} (h : Below W.heap.size W W') : St w0 W' L := by
 have := st.call (L2 := []) ⟨h, by simp, .nil⟩
 simpa using this
theorem St.nil_sl (st : St w0 W L) (e : TypeId) (size : Nat) : St w0 W (.sl none 0 0 [] e size :: L) := by
 refine ⟨st.ext, ?_, List.pairwise_cons.2 ⟨fun y _ b hb => by simp [En.blk] at hb, st.apart⟩⟩
 intro x hx
 rcases List.mem_cons.1 hx with rfl | hx
 ·exact World.ownsRow_nil _ _ _ _
 exact st.ok x hx
theorem Runs.adds {a b c : ByteArray} (hx : ev n l X = some (.string a)) (hy : ev n l Y = some (.string b)) (hz : a.size + b.size ≤ 1099511627776) (hc : c = a ++ b) : Runs P (.binOp .add t X Y t') ty n l w (.string c) := fun ρ _ _ _ _ hρ => by
 have h1 := hρ _ _ hx; have h2 := hρ _ _ hy; subst hc
 have h3 : ¬ ((a.size + b.size : Nat) : Int) > IntKind.i64.max := by
  have : IntKind.i64.max = 9223372036854775807 := by decide
  rw [this]; omega
 simp [execOp, h1, h2, eqGuard, binOp, Op.stringOp]
 omega
theorem Runs.bytes_str {e : TypeId} {m c : Nat} {xs : List Int} (hs : P.underlying t = some (.slice e)) (he : P.underlying e = some (.int .u8)) (hd : P.underlying t' = some .string) (hx : ev n l X = some (.slice A m c)) (hsrc : Src w A (iv .u8 xs)) (hm : m = xs.length) : Runs P (.convert t t' X) ty n l w (.string (strOfNums xs)) := fun ρ _ _ _ _ hρ => by
 have e1 := hρ _ _ hx
 have hr : (convert t t' (.slice A m c)).run P w = .ok (.string (strOfNums xs)) w := by
  subst hm
  cases A with
  | none =>
   have : xs = [] := by
    cases xs with
    | nil => rfl
    | cons a r => obtain ⟨a, ha⟩ := Src.addr_iv hsrc 0 (by simp); cases ha
   subst this
   exact run_convert_bytes_nil w t e hs he _ _ t' hd
  | some a =>
   have hl : (loadCells a xs.length).run P w = .ok (xs.map (Value.int .u8)).toArray w := by
    have := run_loadCells_list (P := P) w a (iv .u8 xs) (fun j v hj => by
     obtain ⟨a', ha, hc⟩ := hsrc j v hj; cases ha; exact hc)
    simpa [iv] using this
   rw [run_convert_bytes_string w t t' e _ _ c hs he hd, run_bytesToString w _ _ c xs hl, foldl_push_bytes]
   simp [strOfNums, ByteArray.empty, ByteArray.emptyWithCapacity]
   rfl
 simp [execOp, e1, hr]
def Ent (P : Program) (f : FuncId) : Prop := ∃ fn, P.funcs[f]? = some fn ∧ fn.body.isSome = true ∧ (fn.name == "runtime.NumGoroutine") = false
theorem Ent.of {f : FuncId} {fn : Func} (h : P.funcs[f]? = some fn) (hb : fn.body.isSome = true) (hn : (fn.name == "runtime.NumGoroutine") = false) : Ent P f := ⟨fn, h, hb, hn⟩
theorem Ent.run {f : FuncId} (h : Ent P f) (args : Array Value) (w : World) : (callFunc f args).run P w = .ok (.enter f args) w := by
 obtain ⟨fn, hf, hb, hn⟩ := h
 have hb' : fn.body ≠ none := by cases hq : fn.body <;> simp_all
 have hn' : ¬ fn.name = "runtime.NumGoroutine" := by simpa using hn
 simp [callFunc, hf, hn', hb']
def evs (n : Nat) (l : Ov) : List Operand → Option (List Value)
  | [] => some []
  | x :: xs => match ev n l x, evs n l xs with
    | some v, some vs => some (v :: vs)
    | _, _ => none
theorem evs_sound {ρ : Operand → Value} (hρ : ∀ x u, ev n l x = some u → ρ x = u) : ∀ {xs : List Operand} {vs : List Value}, evs n l xs = some vs → xs.map ρ = vs
  | [], vs, h => by simp [evs] at h; subst h; rfl
  | x :: xs, vs, h => by
    simp only [evs] at h
    cases h1 : ev n l x with
    | none => simp [h1] at h
    | some v =>
      cases h2 : evs n l xs with
      | none => simp [h1, h2] at h
      | some vs' =>
        simp [h1, h2] at h
        subst h
        rw [List.map_cons, hρ x v h1, evs_sound hρ h2]
theorem run_call_go {ρ : Operand → Value} (hρ : ∀ x u, ev n l x = some u → ρ x = u) {f : FuncId} (he : Ent P f) {xs : List Operand} {vs : List Value} (ha : evs n l xs = some vs) {d : Option Nat} {ats : Array TypeId} :
  (execOp ρ ⟨d, .call { callee := .value (.func f), args := xs.toArray, argTypes := ats }, ty, pos, af, g⟩).run P w = .ok (.enter f vs.toArray) w := by
 have hf : ρ (.func f) = .func (.func f) #[] #[] := hρ _ _ rfl
 have hm := evs_sound hρ ha
 have := Ent.run he vs.toArray w
 simp [execOp, resolve, hf, Deferred.ofValue, invoke, hm, this]
theorem WL.call {f : FuncId} {xs : List Operand} {vs : List Value} {ats : Array TypeId} {R : Ending → World → Prop} (hw : Wanted ops g n l true) (he : Ent P f) (ha : evs n l xs = some vs) (hc : Calls P f vs.toArray w R)
  (h : ∀ e w', R e w' → ∃ v, e = .returned v ∧ WL dl P ops Q rest n ((d, v) :: l) w') : WL dl P ops Q (⟨some d, .call { callee := .value (.func f), args := xs.toArray, argTypes := ats }, ty, pos, af, g⟩ :: rest) n l w :=
 WL.go hw fun b hb hd K hK => by
  unfold Oper.wp
  rw [run_call_go (fun x u hx => ev_sound hb hx) he ha, Oper.upon_enter]
  refine hc.mono fun e w' hR => ?_
  obtain ⟨v, rfl, hv⟩ := h e w' hR
  exact hK _ _ (hv b hb hd)
def HL (dl : List Deferred) (P : Program) (ops : Array Oper) (C : World → Prop) (Q : Exit → Act → World → Prop) (tail rest : List Oper) (n : Nat) (l : Ov) : Prop :=
 ∀ b : Act, b.tmps.size = n → b.defers = dl → wpQuiet P ops C (fun a' => ∀ w', C w' → wpList P ops Q tail a' w') rest (ov b l)
variable {C : World → Prop} {tail : List Oper}
theorem HL.nil (h : ∀ w', C w' → WL dl P ops Q tail n l w') : HL dl P ops C Q tail [] n l := fun b hb hd w' hw' => h w' hw' b hb hd
theorem HL.go {o : Oper} {v : Value} (hw : Wanted ops o.guard n l true) (h : ∀ b : Act, b.tmps.size = n → ∀ w', C w' → o.quietAt P (ov b l) C w' v) (k : ∀ b : Act, b.tmps.size = n → b.defers = dl → wpQuiet P ops C (fun a' => ∀ w', C w' → wpList P ops Q tail a' w') rest ((ov b l).put o.dst v)) : HL dl P ops C Q tail (o :: rest) n l := fun b hb hd => by
 have hwant : Region.wanted o (yielded ops (ov b l).tmps) = true := hw b hb
 unfold wpQuiet
 rw [hwant, if_pos rfl]
 exact ⟨v, h b hb, k b hb hd⟩
theorem HL.on {dd : Option Nat} {op : Op} (hw : Wanted ops g n l true) (h : HL dl P ops C Q tail (⟨dd, op, ty, pos, af, none⟩ :: rest) n l) : HL dl P ops C Q tail (⟨dd, op, ty, pos, af, g⟩ :: rest) n l := fun b hb hd => by
 have h1 := h b hb hd
 have hwant : Region.wanted (⟨dd, op, ty, pos, af, g⟩ : Oper) (yielded ops (ov b l).tmps) = true := hw b hb
 unfold wpQuiet at h1 ⊢
 rw [hwant, if_pos rfl]
 exact h1
theorem HL.val {op : Op} (hw : Wanted ops g n l true) (hr : ∀ w', C w' → Runs P op ty n l w' v) (h : HL dl P ops C Q tail rest n ((d, v) :: l)) : HL dl P ops C Q tail (⟨some d, op, ty, pos, af, g⟩ :: rest) n l :=
 HL.go (v := v) hw (fun b hb w' hw' => by
  unfold Oper.quietAt
  rw [hr w' hw' _ _ _ _ _ (fun x u hx => ev_sound hb hx)]
  exact ⟨rfl, rfl⟩) (fun b hb hd => h b hb hd)
theorem HL.off {op : Op} (hw : Wanted ops g n l false) (h : HL dl P ops C Q tail rest n ((d, undef) :: l)) : HL dl P ops C Q tail (⟨some d, op, ty, pos, af, g⟩ :: rest) n l := fun b hb hd => by
 have hwant : Region.wanted (⟨some d, op, ty, pos, af, g⟩ : Oper) (yielded ops (ov b l).tmps) = false := hw b hb
 unfold wpQuiet
 rw [hwant, if_neg (by simp)]
 exact h b hb hd
theorem HL.call {f : FuncId} {xs : List Operand} {vs : List Value} {ats : Array TypeId} (hw : Wanted ops g n l true) (he : Ent P f) (ha : evs n l xs = some vs) (hc : ∀ w', C w' → Calls P f vs.toArray w' (fun e w'' => e = .returned v ∧ C w''))
  (h : HL dl P ops C Q tail rest n ((d, v) :: l)) : HL dl P ops C Q tail (⟨some d, .call { callee := .value (.func f), args := xs.toArray, argTypes := ats }, ty, pos, af, g⟩ :: rest) n l :=
 HL.go (v := v) hw (fun b hb w' hw' => by
  unfold Oper.quietAt
  rw [run_call_go (fun x u hx => ev_sound hb hx) he ha]
  exact ⟨rfl, hc w' hw'⟩) (fun b hb hd => h b hb hd)
theorem CW.region_qa {id : Nat} {os : List Oper} (hm : P.follows .mixedOrders = true) (hB : Region.lexB .any os.toArray = true) (st : St w0 w L) (h : HL dl P os.toArray (fun w' => St w0 w' L) Q [] os n l) : CW dl P (.region id os.toArray true) Q n l w := fun b hb hd =>
 wp_region_quiet (C := fun w' => St w0 w' L) hm hB st.drew (h b hb hd)
theorem CW.region_qt {id : Nat} {os : List Oper} (m : Nat) (hm : P.follows .mixedOrders = true) (hB : Region.lexTailB .any os.toArray m = true) (st : St w0 w L) (h : HL dl P os.toArray (fun w' => St w0 w' L) Q (os.drop m) (os.take m) n l) : CW dl P (.region id os.toArray true) Q n l w := fun b hb hd =>
 wp_region_quiet_tail (C := fun w' => St w0 w' L) m hm hB st.drew (h b hb hd)
end Go.Kr
