/- Journal: what the walks compute, as functions. -/
import Derived.Test.YtmhcjafkdmcgoaaDoorPlJd
import Derived.Test.YtmhcjafkdmcgoaaDoorPlJs
namespace Go.Proofs.YtmhcjafkdmcgoaaDoor
open Go Go.Kr Go.RowKit
set_option linter.unusedVariables false
set_option linter.unusedSimpArgs false
abbrev RI : Type := R42
abbrev RR : Type := R104
abbrev Z32 : List Int := List.replicate 32 (0 : Int)
def linkf (tag : List Int) (p : Int) (slot : List Int) : List Int := sumf ([255] ++ (tag ++ (putf p 4 ++ slot)))
theorem linkf_length (tag : List Int) (p : Int) (slot : List Int) : (linkf tag p slot).length = 32 := sumf_length _
theorem linkf_byt (tag : List Int) (p : Int) (slot : List Int) : Byt (linkf tag p slot) := sumf_byt _
theorem b255 : Byt [255] := fun x hx => by rw [List.mem_singleton.1 hx]; omega
theorem link_byt {tag : List Int} (p : Int) {slot : List Int} (hb : Byt tag) (hs : Byt slot) : Byt ([255] ++ (tag ++ (putf p 4 ++ slot))) := b255.append (hb.append ((putf_byt p 4).append hs))
theorem link_len (tag : List Int) (p : Int) (slot : List Int) : ([255] ++ (tag ++ (putf p 4 ++ slot))).length = 5 + tag.length + slot.length := by
 rw [List.length_append, List.length_append, List.length_append, putf_length, List.length_singleton]; omega
theorem link_rel (tag : List Int) (p : Int) (slot : List Int) (hb : Byt tag) (hs : Byt slot) (hp : 0 ≤ p ∧ p < 4294967296) (hl : tag.length ≤ 100) (hsl : slot.length ≤ 100000) : journal_Link.rel tag p slot (linkf tag p slot) := by
 have hput := put_rel p 4 (by omega) (by omega)
 have f : [[255], tag, putf p 4, slot].flatten = [255] ++ (tag ++ (putf p 4 ++ slot)) := by simp
 have := pieces_rel [[255], tag, putf p 4, slot] (by rw [f]; exact link_byt p hb hs) (by rw [f, link_len]; omega) (by simp)
 rw [f] at this
 refine ⟨_, ?_, _, this, rfl⟩
 rw [wu64 hp.1 (by omega)]; exact hput
def recb (blk : Int) (b : List Int) (last : Bool) : List Int := [1, if last = true then 1 else 0, 0, 0, 0, 0, 0, 0] ++ (putf blk 8 ++ b)
theorem recb_length {blk : Int} {b : List Int} {last : Bool} (h : b.length = 160) : (recb blk b last).length = 176 := by
 unfold recb
 rw [List.length_append, List.length_append, putf_length, h]; rfl
theorem recb_byt (blk : Int) {b : List Int} (last : Bool) (h : Byt b) : Byt (recb blk b last) := by
 refine Byt.append ?_ ((putf_byt blk 8).append h)
 intro x hx
 simp only [List.mem_cons, List.not_mem_nil, or_false] at hx
 cases last <;> simp at hx <;> omega
theorem pad8 (x : Int) : word_Pad.rel [1, x] 8 [1, x, 0, 0, 0, 0, 0, 0] := .inr ⟨by omega, ⟨by omega, by omega⟩, _, rfl, rfl⟩
theorem put_record (blk : Int) (b : List Int) (last : Bool) (h : b.length = 160) : record_Put.rel blk b last (recb blk b last) 0 := by
 refine .inr ⟨by omega, ?_⟩
 have hput := put_rel blk 8 (by omega) (by omega)
 have hc : ∀ x : Int, slices_Concat_s_byte_byte.rel [[1, x, 0, 0, 0, 0, 0, 0], putf blk 8, b] ([1, x, 0, 0, 0, 0, 0, 0] ++ (putf blk 8 ++ b)) := fun x => by
  have f : [[1, x, 0, 0, 0, 0, 0, 0], putf blk 8, b].flatten = [1, x, 0, 0, 0, 0, 0, 0] ++ (putf blk 8 ++ b) := by simp
  have := concat_rel [[1, x, 0, 0, 0, 0, 0, 0], putf blk 8, b] (by rw [f, List.length_append, List.length_append, putf_length, h]; simp) (by simp)
  rwa [f] at this
 cases last
 ·exact .inr ⟨by simp, _, pad8 0, _, hput, _, hc 0, rfl, rfl⟩
 exact .inl ⟨rfl, ⟨by omega, by simp⟩, _, rfl, _, pad8 1, _, hput, _, hc 1, rfl, rfl⟩
def recsOf (l : List RI) : List RR := (List.range l.length).map fun i => ((gx l i).1, (gx l i).2, decide (i + 1 = l.length))
theorem recsOf_length (l : List RI) : (recsOf l).length = l.length := by simp [recsOf]
theorem recsOf_gx {l : List RI} {i : Nat} (h : i < l.length) : gx (recsOf l) i = ((gx l i).1, (gx l i).2, decide (i + 1 = l.length)) := by
 rw [gx_lt (by rw [recsOf_length]; exact h)]
 simp [recsOf]
def oddI (x : RI) : Bool := x.2.length != 160
def ofB (l : List RI) : Bool := l.isEmpty || l.any oddI
theorem jo_index_L1 (l : List RI) (hl : l.length ≤ 1000000) : ∀ (d k i : Nat) (z : Int), i + d = l.length → d < k → (∀ j, j < i → oddI (gx l j) = false) →
  ∃ r, slices_IndexFunc_s_api_Image_api_Image_fn1_record_Of_1.L1 l r k z i ∧ decide (r ≥ 0) = l.any oddI := by
 intro d
 induction d with
 | zero =>
  intro k i z h1 h2 hj
  obtain ⟨k, rfl⟩ : ∃ m, k = m + 1 := ⟨k - 1, by omega⟩
  refine ⟨-1, .inr ⟨by omega, rfl⟩, ?_⟩
  have : l.any oddI = false := List.any_eq_false.2 fun x hx => by
   obtain ⟨p, hp, rfl⟩ := List.getElem_of_mem hx
   rw [← gx_lt hp, hj p (by omega)]; simp
  rw [this]; rfl
 | succ d ih =>
  intro k i z h1 h2 hj
  obtain ⟨k, rfl⟩ : ∃ m, k = m + 1 := ⟨k - 1, by omega⟩
  cases c : oddI (gx l i) with
  | false =>
   obtain ⟨r, hr, e⟩ := ih k (i + 1) z (by omega) (by omega) fun j h => by
    by_cases c2 : j = i
    ·rw [c2, c]
    exact hj j (by omega)
   refine ⟨r, ?_, e⟩
   unfold slices_IndexFunc_s_api_Image_api_Image_fn1_record_Of_1.L1
   rw [Int.toNat_natCast]
   refine .inl ⟨by omega, ⟨by omega, by omega⟩, _, rfl, .inr ⟨?_, ?_⟩⟩
   ·unfold oddI at c; simp at c; simp [c]
   rw [w64 (by omega) (by omega)]; exact hr
  | true =>
   refine ⟨i, ?_, ?_⟩
   ·unfold slices_IndexFunc_s_api_Image_api_Image_fn1_record_Of_1.L1
    rw [Int.toNat_natCast]
    refine .inl ⟨by omega, ⟨by omega, by omega⟩, _, rfl, .inl ⟨?_, rfl⟩⟩
    unfold oddI at c; simp at c; simp; omega
   have : l.any oddI = true := List.any_eq_true.2 ⟨_, gx_mem (by omega), c⟩
   rw [this]; simp
theorem jo_contains (l : List RI) (hl : l.length ≤ 1000000) : slices_ContainsFunc_s_api_Image_api_Image_fn1_record_Of_1.rel l (l.any oddI) := by
 obtain ⟨r, hr, e⟩ := jo_index_L1 l hl l.length (l.length + 1) 0 0 (by omega) (by omega) (fun j h => by omega)
 exact ⟨r, ⟨_, hr⟩, e.symm⟩
theorem oddI_not {x : RI} (h : oddI x = false) : x.2.length = 160 := by unfold oddI at h; simpa using h
theorem jo_of_L1 (l : List RI) (hl : l.length ≤ 1000000) (h : ∀ x ∈ l, x.2.length = 160) : ∀ (d k i : Nat), i + d = l.length → d < k → record_Of.L1 l (recsOf l) 0 k ((recsOf l).take i) i := by
 intro d
 induction d with
 | zero =>
  intro k i h1 h2
  obtain ⟨k, rfl⟩ : ∃ m, k = m + 1 := ⟨k - 1, by omega⟩
  exact .inr ⟨by omega, by rw [List.take_of_length_le (by rw [recsOf_length]; omega)], rfl⟩
 | succ d ih =>
  intro k i h1 h2
  obtain ⟨k, rfl⟩ : ∃ m, k = m + 1 := ⟨k - 1, by omega⟩
  have H := ih k (i + 1) (by omega) (by omega)
  have hi := recsOf_length l
  rw [List.take_succ_eq_append_getElem (by omega), ← gx_lt (by omega), recsOf_gx (by omega)] at H
  have hr := h _ (gx_mem (l := l) (i := i) (by omega))
  unfold record_Of.L1
  rw [Int.toNat_natCast]
  refine .inl ⟨by omega, ⟨by omega, by omega⟩, _, dk_clone _ (by omega), _, rfl, by rw [List.length_append, List.length_take]; simp; omega, ?_⟩
  rw [show IntKind.i64.wrap ((i : Int) + 1) = ((i + 1 : Nat) : Int) by rw [w64 (by omega) (by omega)]; omega]
  rw [show ((i : Int) == IntKind.i64.wrap ((l.length : Int) - 1)) = decide (i + 1 = l.length) by
   rw [w64 (by omega) (by omega), Bool.eq_iff_iff, beq_iff_eq, decide_eq_true_iff]; omega]
  exact H
theorem jo_of (l : List RI) (hl : l.length ≤ 1000000) : record_Of.rel l (if ofB l = true then [] else recsOf l) (if ofB l = true then 1 else 0) := by
 by_cases c1 : l.length = 0
 ·obtain rfl := List.eq_nil_of_length_eq_zero c1
  exact .inl ⟨rfl, rfl, rfl⟩
 refine .inr ⟨by omega, _, jo_contains l hl, ?_⟩
 have ce : l.isEmpty = false := by
  cases l with
  | nil => simp at c1
  | cons a l => rfl
 cases c2 : l.any oddI with
 | true =>
  have : ofB l = true := by unfold ofB; rw [c2]; simp
  rw [if_pos this, if_pos this]
  exact .inl ⟨rfl, rfl, rfl⟩
 | false =>
  have : ofB l = false := by unfold ofB; rw [c2, ce]; rfl
  rw [if_neg (by rw [this]; simp), if_neg (by rw [this]; simp)]
  refine .inr ⟨by simp, l.length + 1, ?_⟩
  have := jo_of_L1 l hl (fun x hx => oddI_not (by simpa using (List.any_eq_false.1 c2 x hx))) l.length (l.length + 1) 0 (by omega) (by omega)
  simpa using this
structure JS where
 key : List Int
 first : Int
 size : Int
 start : Int
 count : Int
 tag : List Int
 next : Int
 limit : Int
structure JOk (n : Nat) (j : JS) : Prop where
 few : n ≤ 4096
 key : Byt j.key ∧ j.key.length = 32
 tag : Byt j.tag ∧ j.tag.length = 32
 pl : 0 ≤ j.first ∧ 1 ≤ j.size ∧ j.first + j.size ≤ (n : Int)
 st : 0 ≤ j.start ∧ j.start < j.size
 cnt : 0 ≤ j.count ∧ j.count ≤ j.size
 nx : 1 ≤ j.next ∧ j.next < 18446744073709551616
 lim : 0 ≤ j.limit ∧ j.limit ≤ 9223372036854775807
def newB (n first size st cnt next limit : Int) : Bool := decide (first < 0 ∨ size < 1 ∨ first > n ∨ n - first < size ∨ ¬ (st < size ∧ cnt ≤ size) ∨ next < 1 ∨ limit > 9223372036854775807)
theorem may_rel (st cnt : Int) (tag : List Int) (size : Int) : journal_may.rel st cnt tag size (decide (st < size ∧ cnt ≤ size)) := by
 by_cases h : st < size
 ·exact .inl ⟨h, by simp [h]⟩
 exact .inr ⟨h, by simp [h]⟩
theorem jn_new (d : DS) (hn : d.p.length ≤ 4096) (key : List Int) (first size st cnt : Int) (tag : List Int) (next limit : Int) (hf : -9223372036854775808 ≤ first ∧ first ≤ 9223372036854775807) (hs : -9223372036854775808 ≤ size ∧ size ≤ 9223372036854775807) :
  journal_New.rel d.p d.u d.left d.down d.ops key first size st cnt tag next limit d.p d.u d.left d.down d.ops (if newB d.p.length first size st cnt next limit = true then none else some (key, first, size, st, cnt, tag, next, limit)) (if newB d.p.length first size st cnt next limit = true then 1 else 0) := by
 have tt : ∀ {p : Prop} [Decidable p], p → decide p = true := fun h => decide_eq_true h
 unfold newB
 by_cases c1 : first < 0
 ·rw [if_pos (tt (.inl c1)), if_pos (tt (.inl c1))]; exact .inl ⟨c1, rfl, rfl, rfl, rfl, rfl, rfl, rfl⟩
 refine .inr ⟨c1, ?_⟩
 by_cases c2 : size < 1
 ·rw [if_pos (tt (.inr (.inl c2))), if_pos (tt (.inr (.inl c2)))]; exact .inl ⟨c2, rfl, rfl, rfl, rfl, rfl, rfl, rfl⟩
 refine .inr ⟨c2, _, _, _, _, _, _, dk_size d, ?_⟩
 by_cases c3 : first > (d.p.length : Int)
 ·rw [if_pos (tt (by omega)), if_pos (tt (by omega))]; exact .inl ⟨c3, rfl, rfl, rfl, rfl, rfl, rfl, rfl⟩
 refine .inr ⟨c3, _, _, _, _, _, _, dk_size d, ?_⟩
 rw [w64 (x := (d.p.length : Int) - first) (by omega) (by omega), wu64 (x := size) (by omega) (by omega)]
 by_cases c4 : (d.p.length : Int) - first < size
 ·rw [if_pos (tt (by omega)), if_pos (tt (by omega))]; exact .inl ⟨c4, rfl, rfl, rfl, rfl, rfl, rfl, rfl⟩
 refine .inr ⟨c4, _, may_rel st cnt tag size, ?_⟩
 by_cases c5 : st < size ∧ cnt ≤ size
 ·refine .inr ⟨by simp [c5], ?_⟩
  by_cases c6 : next < 1
  ·rw [if_pos (tt (by omega)), if_pos (tt (by omega))]; exact .inl ⟨c6, rfl, rfl, rfl, rfl, rfl, rfl, rfl⟩
  refine .inr ⟨c6, ?_⟩
  by_cases c7 : limit > 9223372036854775807
  ·rw [if_pos (tt (by omega)), if_pos (tt (by omega))]; exact .inl ⟨c7, rfl, rfl, rfl, rfl, rfl, rfl, rfl⟩
  rw [if_neg (by rw [decide_eq_true_iff]; omega), if_neg (by rw [decide_eq_true_iff]; omega)]
  exact .inr ⟨c7, rfl, rfl, rfl, rfl, rfl, rfl, rfl⟩
 rw [if_pos (tt (by omega)), if_pos (tt (by omega))]; exact .inl ⟨by simpa using c5, rfl, rfl, rfl, rfl, rfl, rfl, rfl⟩
def placeJ (first size st cnt : Int) : Int := first + (st + cnt) % size
def slotJ (key : List Int) (p next : Int) (r : RR) : List Int := sealb key p next (recb r.1 r.2.1 r.2.2)
theorem placeJ_range {first size st cnt : Int} (n : Nat) (h : 0 ≤ first ∧ 1 ≤ size ∧ first + size ≤ (n : Int)) : 0 ≤ placeJ first size st cnt ∧ placeJ first size st cnt < (n : Int) ∧ 0 ≤ (st + cnt) % size ∧ (st + cnt) % size < size := by
 have h1 := Int.emod_nonneg (st + cnt) (show size ≠ 0 by omega)
 have h2 := Int.emod_lt_of_pos (st + cnt) (show 0 < size by omega)
 unfold placeJ
 omega
theorem slotJ_length (key : List Int) (p next : Int) {r : RR} (h : r.2.1.length = 160) : (slotJ key p next r).length = 192 := sealb_length _ _ _ (by rw [recb_length h]; omega)
theorem slotJ_byt (key : List Int) (p next : Int) {r : RR} (h : Byt r.2.1) : Byt (slotJ key p next r) := sealb_byt _ _ _ (recb_byt _ _ h)
theorem put1 (d : DS) (key : List Int) (first size start count : Int) (tag : List Int) (next limit st cnt : Int) (tg : List Int) (r : RR) (hd : d.Wf) (hn : d.p.length ≤ 4096) (hk : Byt key ∧ key.length = 32) (hp : 0 ≤ first ∧ 1 ≤ size ∧ first + size ≤ (d.p.length : Int)) (hst : 0 ≤ st ∧ st ≤ 1000000) (hc : 0 ≤ cnt ∧ cnt ≤ 1000000)
  (hx : 1 ≤ next ∧ next < 9223372036854775808) (hb : Byt r.2.1) (hl : r.2.1.length = 160) (ht : Byt tg ∧ tg.length = 32) :
  journal_Journal_Append_1.rel r.1 r.2.1 r.2.2 d.p d.u d.left d.down d.ops key first size start count tag next limit st cnt tg
   (writeD d (placeJ first size st cnt) (slotJ key (placeJ first size st cnt) next r)).1.p (writeD d (placeJ first size st cnt) (slotJ key (placeJ first size st cnt) next r)).1.u (writeD d (placeJ first size st cnt) (slotJ key (placeJ first size st cnt) next r)).1.left (writeD d (placeJ first size st cnt) (slotJ key (placeJ first size st cnt) next r)).1.down (writeD d (placeJ first size st cnt) (slotJ key (placeJ first size st cnt) next r)).1.ops
   key first size start count tag (next + 1) limit st (cnt + 1) (linkf tg (placeJ first size st cnt) (slotJ key (placeJ first size st cnt) next r)) (writeD d (placeJ first size st cnt) (slotJ key (placeJ first size st cnt) next r)).2 := by
 have hr := placeJ_range (st := st) (cnt := cnt) d.p.length hp
 have e0 : IntKind.u64.wrap (st + cnt) = st + cnt := wu64 (by omega) (by omega)
 have e1 : Int.tmod (st + cnt) size = (st + cnt) % size := Int.tmod_eq_emod_of_nonneg (by omega)
 have e2 : IntKind.i64.wrap ((st + cnt) % size) = (st + cnt) % size := w64 (by omega) (by omega)
 have e3 : IntKind.i64.wrap (first + (st + cnt) % size) = placeJ first size st cnt := w64 (by omega) (by omega)
 have e4 : IntKind.u32.wrap (placeJ first size st cnt) = placeJ first size st cnt := wu32 (by omega) (by omega)
 have hs := seal_rel key (placeJ first size st cnt) next (recb r.1 r.2.1 r.2.2) hk.1 hk.2 (by omega) (by omega) (by rw [recb_length hl]; omega)
 have es : sealf key (placeJ first size st cnt) next (recb r.1 r.2.1 r.2.2) = (slotJ key (placeJ first size st cnt) next r, 0) := by
  unfold sealf
  rw [recb_length hl, if_neg (by omega), if_neg (by omega)]
  rfl
 rw [es] at hs
 have hlk := link_rel tg (placeJ first size st cnt) (slotJ key (placeJ first size st cnt) next r) ht.1 (slotJ_byt _ _ _ hb) (by omega) (by omega) (by rw [slotJ_length _ _ _ hl]; omega)
 have hw := dk_write d (placeJ first size st cnt) (slotJ key (placeJ first size st cnt) next r) hd
 refine ⟨by omega, _, rfl, ?_⟩
 rw [e0, e1, e2, e3, e4]
 refine ⟨_, _, put_record _ _ _ hl, .inr ⟨by simp, _, _, hs, .inr ⟨by simp, _, hlk, _, _, _, _, _, _, hw, rfl, rfl, rfl, rfl, rfl, rfl, rfl, rfl, rfl, rfl, rfl, ?_, rfl, rfl, ?_, rfl, rfl⟩⟩⟩
 ·exact (wu64 (by omega) (by omega)).symm
 exact (wu64 (by omega) (by omega)).symm
theorem writeD_same (d : DS) (i : Int) (b : List Int) : (writeD d i b).1.p = d.p ∧ (writeD d i b).1.u.length ≤ d.u.length + 1 ∧ (writeD d i b).1.ops.length ≤ d.ops.length + 1 := by
 unfold writeD
 split
 ·exact ⟨rfl, Nat.le_succ _, Nat.le_succ _⟩
 split
 ·exact ⟨rfl, Nat.le_succ _, Nat.le_succ _⟩
 split
 ·exact ⟨rfl, by simp, by simp⟩
 exact ⟨rfl, by simp, by simp⟩
def runJ (key : List Int) (first size st : Int) : List RR → DS → Int → Int → List Int → DS × Int × Int × Int × List Int × Int
 | [], d, nx, c, t => (d, nx, st, c, t, 0)
 | r :: rs, d, nx, c, t =>
  if (writeD d (placeJ first size st c) (slotJ key (placeJ first size st c) nx r)).2 ≠ 0 then ((writeD d (placeJ first size st c) (slotJ key (placeJ first size st c) nx r)).1, nx + 1, 0, 0, Z32, (writeD d (placeJ first size st c) (slotJ key (placeJ first size st c) nx r)).2)
  else runJ key first size st rs (writeD d (placeJ first size st c) (slotJ key (placeJ first size st c) nx r)).1 (nx + 1) (c + 1) (linkf t (placeJ first size st c) (slotJ key (placeJ first size st c) nx r))
theorem run_L1 (key : List Int) (first size st : Int) (start count : Int) (tag : List Int) (limit : Int) (l : List RR) (x : Int) (hk : Byt key ∧ key.length = 32) (hst : 0 ≤ st ∧ st ≤ 100000) (hll : l.length ≤ 100000) (hr : ∀ r ∈ l, Byt r.2.1 ∧ r.2.1.length = 160) :
  ∀ (rs : List RR) (f i : Nat) (d : DS) (nx c : Int) (t : List Int), l.drop i = rs → rs.length < f → d.Wf → d.p.length ≤ 4096 → (0 ≤ first ∧ 1 ≤ size ∧ first + size ≤ (d.p.length : Int)) → 1 ≤ nx → nx + rs.length < 9223372036854775808 → 0 ≤ c → c + rs.length ≤ 1000000 → Byt t ∧ t.length = 32 → d.u.length + rs.length ≤ 1000000 → d.ops.length + rs.length ≤ 1000000 →
   journal_Journal_Append.L1 (runJ key first size st rs d nx c t).1.p (runJ key first size st rs d nx c t).1.u (runJ key first size st rs d nx c t).1.left (runJ key first size st rs d nx c t).1.down (runJ key first size st rs d nx c t).1.ops key first size start count tag (runJ key first size st rs d nx c t).2.1 limit
    (runJ key first size st rs d nx c t).2.2.1 (runJ key first size st rs d nx c t).2.2.2.1 (runJ key first size st rs d nx c t).2.2.2.2.1 (runJ key first size st rs d nx c t).2.2.2.2.2 l f d.p d.u d.ops st c t key first size start count tag nx limit d.left d.down x i := by
 intro rs
 induction rs with
 | nil =>
  intro f i d nx c t h0 h1 _ _ _ _ _ _ _ _ _ _
  obtain ⟨f, rfl⟩ : ∃ m, f = m + 1 := ⟨f - 1, by omega⟩
  have hi : l.length ≤ i := by
   have := congrArg List.length h0
   simp at this; omega
  exact .inr ⟨by omega, rfl, rfl, rfl, rfl, rfl, rfl, rfl, rfl, rfl, rfl, rfl, rfl, rfl, rfl, rfl, rfl, rfl⟩
 | cons r rs ih =>
  intro f i d nx c t h0 h1 hd hp4 hp h2 h3 h4 h5 ht hu ho
  obtain ⟨f, rfl⟩ : ∃ m, f = m + 1 := ⟨f - 1, by omega⟩
  rw [List.length_cons] at h1 h3 h5 hu ho
  have hi : i < l.length := by
   have := congrArg List.length h0
   simp at this; omega
  have hg : gx l i = r := by
   rw [gx_lt hi]
   rw [List.drop_eq_getElem_cons hi] at h0
   exact (List.cons.inj h0).1
  have hd1 : l.drop (i + 1) = rs := by
   rw [List.drop_eq_getElem_cons hi] at h0
   exact (List.cons.inj h0).2
  have hrr := hr r (by rw [← hg]; exact gx_mem hi)
  have hw := put1 d key first size start count tag nx limit st c t r hd hp4 hk hp (by omega) (by omega) (by omega) hrr.1 hrr.2 ht
  have hs := writeD_same d (placeJ first size st c) (slotJ key (placeJ first size st c) nx r)
  have hwf := writeD_wf (i := placeJ first size st c) (b := slotJ key (placeJ first size st c) nx r) hd (by omega) (by omega)
  unfold runJ journal_Journal_Append.L1
  rw [Int.toNat_natCast, hg]
  refine .inl ⟨by omega, ⟨by omega, by omega⟩, _, _, _, _, _, _, _, _, _, _, _, _, _, _, _, _, _, hw, ?_⟩
  by_cases he : (writeD d (placeJ first size st c) (slotJ key (placeJ first size st c) nx r)).2 ≠ 0
  ·rw [if_pos he]
   exact .inl ⟨he, rfl, rfl, rfl, rfl, rfl, rfl, rfl, rfl, rfl, rfl, rfl, rfl, rfl, rfl, rfl, rfl, rfl⟩
  rw [if_neg he]
  refine .inr ⟨he, ?_⟩
  rw [show IntKind.i64.wrap ((i : Int) + 1) = ((i + 1 : Nat) : Int) by rw [w64 (by omega) (by omega)]; omega]
  exact ih f (i + 1) _ (nx + 1) (c + 1) _ hd1 (by omega) hwf (by rw [hs.1]; exact hp4) (by rw [hs.1]; exact hp) (by omega) (by omega) (by omega) (by omega) ⟨linkf_byt _ _ _, linkf_length _ _ _⟩ (by omega) (by omega)
def appendJ (d : DS) (j : JS) (l : List RI) : DS × Int × Int × Int × List Int × Int :=
 if ofB l = true then (d, j.next, 0, 0, Z32, 1)
 else if (l.length : Int) > j.size - j.count then (d, j.next, 0, 0, Z32, 17)
 else if j.next > j.limit then (d, j.next, 0, 0, Z32, 15)
 else if (l.length : Int) > j.limit - j.next then (d, j.next, 0, 0, Z32, 15)
 else runJ j.key j.first j.size j.start (recsOf l) d j.next j.count j.tag
theorem jn_room (d : DS) (j : JS) {n : Nat} (hj : JOk n j) : journal_Journal_Room.rel d.p d.u d.left d.down d.ops j.key j.first j.size j.start j.count j.tag j.next j.limit d.p d.u d.left d.down d.ops j.key j.first j.size j.start j.count j.tag j.next j.limit (j.size - j.count) := by
 have h1 := hj.pl; have h2 := hj.cnt; have h3 := hj.few
 exact ⟨rfl, rfl, rfl, rfl, rfl, rfl, rfl, rfl, rfl, rfl, rfl, rfl, rfl, (wu64 (by omega) (by omega)).symm⟩
theorem jn_append (d : DS) (j : JS) (l : List RI) (hd : d.Wf) (hj : JOk d.p.length j) (hll : l.length ≤ 10000) (hb : ∀ x ∈ l, Byt x.2) (hu : d.u.length ≤ 900000) (ho : d.ops.length ≤ 900000) :
  journal_Journal_Append.rel d.p d.u d.left d.down d.ops j.key j.first j.size j.start j.count j.tag j.next j.limit l
   (appendJ d j l).1.p (appendJ d j l).1.u (appendJ d j l).1.left (appendJ d j l).1.down (appendJ d j l).1.ops j.key j.first j.size j.start j.count j.tag (appendJ d j l).2.1 j.limit (appendJ d j l).2.2.1 (appendJ d j l).2.2.2.1 (appendJ d j l).2.2.2.2.1 (appendJ d j l).2.2.2.2.2 := by
 have hf := hj.few; have hpl := hj.pl; have hcn := hj.cnt; have hst := hj.st; have hnx := hj.nx; have hlm := hj.lim
 refine ⟨_, _, jo_of l (by omega), ?_⟩
 unfold appendJ
 by_cases c1 : ofB l = true
 ·rw [if_pos c1, if_pos c1, if_pos c1]
  exact .inl ⟨by omega, rfl, rfl, rfl, rfl, rfl, rfl, rfl, rfl, rfl, rfl, rfl, rfl, rfl, rfl, rfl, rfl, rfl⟩
 rw [if_neg c1, if_neg c1, if_neg c1]
 refine .inr ⟨by simp, _, _, _, _, _, _, _, _, _, _, _, _, _, _, jn_room d j hj, ?_⟩
 rw [recsOf_length, wu64 (x := (l.length : Int)) (by omega) (by omega)]
 by_cases c2 : (l.length : Int) > j.size - j.count
 ·rw [if_pos c2]
  exact .inl ⟨c2, rfl, rfl, rfl, rfl, rfl, rfl, rfl, rfl, rfl, rfl, rfl, rfl, rfl, rfl, rfl, rfl, rfl⟩
 rw [if_neg c2]
 refine .inr ⟨c2, ?_⟩
 by_cases c3 : j.next > j.limit
 ·rw [if_pos c3]
  exact .inl ⟨c3, rfl, rfl, rfl, rfl, rfl, rfl, rfl, rfl, rfl, rfl, rfl, rfl, rfl, rfl, rfl, rfl, rfl⟩
 rw [if_neg c3]
 refine .inr ⟨c3, ?_⟩
 rw [wu64 (x := j.limit - j.next) (by omega) (by omega)]
 by_cases c4 : (l.length : Int) > j.limit - j.next
 ·rw [if_pos c4]
  exact .inl ⟨c4, rfl, rfl, rfl, rfl, rfl, rfl, rfl, rfl, rfl, rfl, rfl, rfl, rfl, rfl, rfl, rfl, rfl⟩
 rw [if_neg c4]
 have hlen := recsOf_length l
 have c5 : ∀ x ∈ l, oddI x = false := fun x hx => by
  have : ofB l = false := by simpa using c1
  unfold ofB at this
  rw [Bool.or_eq_false_iff] at this
  simpa using List.any_eq_false.1 this.2 x hx
 refine .inr ⟨c4, l.length + 1, run_L1 j.key j.first j.size j.start j.start j.count j.tag j.limit (recsOf l) 0 hj.key (by omega) (by omega) (fun r hr => ?_) (recsOf l) _ 0 d j.next j.count j.tag rfl (by omega) hd hf hpl (by omega) (by omega) (by omega) (by omega) hj.tag (by omega) (by omega)⟩
 obtain ⟨p, hp, rfl⟩ := List.getElem_of_mem hr
 rw [← gx_lt hp, recsOf_gx (by omega)]
 have hm := gx_mem (l := l) (i := p) (by omega)
 exact ⟨hb _ hm, oddI_not (c5 _ hm)⟩
def adoptJ (j : JS) (st cnt : Int) (tag : List Int) (limit : Int) : JS := if st < j.size ∧ cnt ≤ j.size then { j with start := st, count := cnt, tag := tag, limit := min limit 9223372036854775807 } else j
theorem jn_adopt (d : DS) (j : JS) (st cnt : Int) (tag : List Int) (limit : Int) : journal_Journal_Adopt.rel d.p d.u d.left d.down d.ops j.key j.first j.size j.start j.count j.tag j.next j.limit st cnt tag limit d.p d.u d.left d.down d.ops
  (adoptJ j st cnt tag limit).key (adoptJ j st cnt tag limit).first (adoptJ j st cnt tag limit).size (adoptJ j st cnt tag limit).start (adoptJ j st cnt tag limit).count (adoptJ j st cnt tag limit).tag (adoptJ j st cnt tag limit).next (adoptJ j st cnt tag limit).limit := by
 refine ⟨_, may_rel st cnt tag j.size, ?_⟩
 unfold adoptJ
 by_cases h : st < j.size ∧ cnt ≤ j.size
 ·rw [if_pos h]
  refine .inl ⟨by simp [h], rfl, rfl, rfl, rfl, rfl, rfl, rfl, rfl, rfl, rfl, rfl, rfl, ?_⟩
  show min limit 9223372036854775807 = minI limit 9223372036854775807
  unfold minI; omega
 rw [if_neg h]
 exact .inr ⟨by simpa using h, rfl, rfl, rfl, rfl, rfl, rfl, rfl, rfl, rfl, rfl, rfl, rfl, rfl⟩
theorem adoptJ_ok {n : Nat} {j : JS} (h : JOk n j) {st cnt : Int} {tag : List Int} {limit : Int} (h1 : 0 ≤ st) (h2 : 0 ≤ cnt) (h3 : Byt tag ∧ tag.length = 32) (h4 : 0 ≤ limit) : JOk n (adoptJ j st cnt tag limit) := by
 unfold adoptJ
 split
 ·rename_i c
  exact ⟨h.few, h.key, h3, h.pl, ⟨h1, c.1⟩, ⟨h2, c.2⟩, h.nx, ⟨by show 0 ≤ min limit 9223372036854775807; omega, by show min limit 9223372036854775807 ≤ _; omega⟩⟩
 exact h
theorem jn_state (d : DS) (j : JS) : journal_Journal_State.rel d.p d.u d.left d.down d.ops j.key j.first j.size j.start j.count j.tag j.next j.limit d.p d.u d.left d.down d.ops j.key j.first j.size j.start j.count j.tag j.next j.limit j.start j.count j.tag j.next :=
 ⟨rfl, rfl, rfl, rfl, rfl, rfl, rfl, rfl, rfl, rfl, rfl, rfl, rfl, rfl, rfl, rfl, rfl⟩
theorem jn_empty (d : DS) (j : JS) {n : Nat} (hj : JOk n j) : journal_Journal_Empty.rel d.p d.u d.left d.down d.ops j.key j.first j.size j.start j.count j.tag j.next j.limit d.p d.u d.left d.down d.ops j.key j.first j.size j.start j.count j.tag j.next j.limit ((j.start + j.count) % j.size) 0 Z32 := by
 have h1 := hj.pl; have h2 := hj.cnt; have h3 := hj.few; have h4 := hj.st
 refine ⟨by omega, rfl, rfl, rfl, rfl, rfl, rfl, rfl, rfl, rfl, rfl, rfl, rfl, rfl, ?_, rfl, rfl⟩
 rw [wu64 (by omega) (by omega), Int.tmod_eq_emod_of_nonneg (by omega)]
theorem JOk.next {n : Nat} {j : JS} (h : JOk n j) {x : Int} (h1 : 1 ≤ x ∧ x < 18446744073709551616) : JOk n { j with next := x } := ⟨h.few, h.key, h.tag, h.pl, h.st, h.cnt, h1, h.lim⟩
def wsJ (key : List Int) (first size st : Int) : List RR → Int → Int → List R124
 | [], _, _ => []
 | r :: rs, nx, c => (placeJ first size st c, slotJ key (placeJ first size st c) nx r) :: wsJ key first size st rs (nx + 1) (c + 1)
def tgJ (key : List Int) (first size st : Int) : List RR → Int → Int → List Int → List Int
 | [], _, _, t => t
 | r :: rs, nx, c, t => tgJ key first size st rs (nx + 1) (c + 1) (linkf t (placeJ first size st c) (slotJ key (placeJ first size st c) nx r))
theorem wsJ_length (key : List Int) (first size st : Int) : ∀ (rs : List RR) (nx c : Int), (wsJ key first size st rs nx c).length = rs.length
 | [], _, _ => rfl
 | r :: rs, nx, c => by rw [wsJ, List.length_cons, wsJ_length key first size st rs, List.length_cons]
theorem tgJ_ok (key : List Int) (first size st : Int) : ∀ (rs : List RR) (nx c : Int) (t : List Int), (Byt t ∧ t.length = 32) → Byt (tgJ key first size st rs nx c t) ∧ (tgJ key first size st rs nx c t).length = 32
 | [], _, _, t, h => h
 | r :: rs, nx, c, t, h => tgJ_ok key first size st rs _ _ _ ⟨linkf_byt _ _ _, linkf_length _ _ _⟩
theorem runJ_ok (key : List Int) (first size st : Int) : ∀ (rs : List RR) (d : DS) (nx c : Int) (t : List Int), d.down = false → d.left < 0 → (0 ≤ first ∧ 1 ≤ size ∧ first + size ≤ (d.p.length : Int)) → (∀ r ∈ rs, r.2.1.length = 160) →
    runJ key first size st rs d nx c t = ({ d with u := d.u ++ wsJ key first size st rs nx c, ops := d.ops ++ (wsJ key first size st rs nx c).map fun x => (2, x.1) }, nx + rs.length, st, c + rs.length, tgJ key first size st rs nx c t, 0)
  | [], d, nx, c, t, _, _, _, _ => by simp [runJ, wsJ, tgJ]
  | r :: rs, d, nx, c, t, h1, h2, h3, h4 => by
    have hr := placeJ_range (st := st) (cnt := c) d.p.length h3
    have hw := writeD_ok (d := d) (i := placeJ first size st c) (b := slotJ key (placeJ first size st c) nx r) h1 ⟨hr.1, hr.2.1⟩ (slotJ_length _ _ _ (h4 r (List.mem_cons_self ..))) (by omega)
    rw [if_neg (by omega)] at hw
    have ih := runJ_ok key first size st rs { d with u := d.u ++ [(placeJ first size st c, slotJ key (placeJ first size st c) nx r)], ops := d.ops ++ [(2, placeJ first size st c)] } (nx + 1) (c + 1) (linkf t (placeJ first size st c) (slotJ key (placeJ first size st c) nx r)) h1 h2 h3 (fun x hx => h4 x (List.mem_cons_of_mem _ hx))
    rw [runJ, hw, if_neg (by simp)]
    rw [show ({ p := d.p, u := d.u ++ [(placeJ first size st c, slotJ key (placeJ first size st c) nx r)], left := d.left, down := d.down, ops := d.ops ++ [(2, placeJ first size st c)] } : DS) = { d with u := d.u ++ [(placeJ first size st c, slotJ key (placeJ first size st c) nx r)], ops := d.ops ++ [(2, placeJ first size st c)] } from rfl, ih]
    simp only [wsJ, tgJ, List.append_assoc, List.singleton_append, List.map_cons, List.length_cons, Prod.mk.injEq, true_and, and_true]
    omega
theorem ofB_false {l : List RI} (h0 : l ≠ []) (h : ∀ x ∈ l, x.2.length = 160) : ofB l = false := by
 have h1 : l.any oddI = false := List.any_eq_false.2 fun x hx => by simp [oddI, h x hx]
 unfold ofB
 rw [h1]
 cases l with
 | nil => exact absurd rfl h0
 | cons a l => rfl
theorem recsOf_160 {l : List RI} (h : ∀ x ∈ l, x.2.length = 160) : ∀ r ∈ recsOf l, r.2.1.length = 160 := fun r hr => by
 have hl := recsOf_length l
 obtain ⟨p, hp, rfl⟩ := List.getElem_of_mem hr
 rw [← gx_lt hp, recsOf_gx (by omega)]
 exact h _ (gx_mem (by omega))
theorem appendJ_ok {d : DS} {j : JS} {l : List RI} (h0 : l ≠ []) (h : ∀ x ∈ l, x.2.length = 160) (h1 : (l.length : Int) ≤ j.size - j.count) (h2 : j.next + l.length ≤ j.limit) (hd : d.down = false) (hl : d.left < 0) (hj : JOk d.p.length j) :
  appendJ d j l = ({ d with u := d.u ++ wsJ j.key j.first j.size j.start (recsOf l) j.next j.count, ops := d.ops ++ (wsJ j.key j.first j.size j.start (recsOf l) j.next j.count).map fun x => (2, x.1) }, j.next + l.length, j.start, j.count + l.length, tgJ j.key j.first j.size j.start (recsOf l) j.next j.count j.tag, 0) := by
 unfold appendJ
 rw [if_neg (by rw [ofB_false h0 h]; simp), if_neg (by omega), if_neg (by omega), if_neg (by omega), runJ_ok j.key j.first j.size j.start (recsOf l) d j.next j.count j.tag hd hl hj.pl (recsOf_160 h), recsOf_length]
def K1 : List Int := [1, 0, 0, 0, 0, 0, 0, 0, 0, 0, 0, 0, 0, 0, 0, 0, 0, 0, 0, 0, 0, 0, 0, 0, 0, 0, 0, 0, 0, 0, 0, 0]
def J0 : JS := ⟨K1, 1, 2, 0, 0, Z32, 1, 100⟩
def X3 : RI := (3, List.replicate 160 (0 : Int))
theorem J0_ok : JOk 4 J0 := ⟨by omega, ⟨fun x hx => by simp [J0, K1] at hx; omega, rfl⟩, ⟨rep_byt 32, List.length_replicate ..⟩, by decide, by decide, by decide, by decide, by decide⟩
set_option maxRecDepth 100000 in
theorem lz1 : [255] ++ (List.replicate 32 (0 : Int) ++ (putf 0 4 ++ [])) = [255, 0, 0, 0, 0, 0, 0, 0, 0, 0, 0, 0, 0, 0, 0, 0, 0, 0, 0, 0, 0, 0, 0, 0, 0, 0, 0, 0, 0, 0, 0, 0, 0, 0, 0, 0, 0] := by decide +kernel
theorem lz2 : (sumf [255, 0, 0, 0, 0, 0, 0, 0, 0, 0, 0, 0, 0, 0, 0, 0, 0, 0, 0, 0, 0, 0, 0, 0, 0, 0, 0, 0, 0, 0, 0, 0, 0, 0, 0, 0, 0] == List.replicate 32 (0 : Int)) = false := by decide +kernel
theorem link_zero : ¬ (linkf Z32 0 [] = Z32) := fun h => by
 have h2 := lz2
 rw [← lz1] at h2
 have h3 : sumf ([255] ++ (List.replicate 32 (0 : Int) ++ (putf 0 4 ++ []))) = List.replicate 32 (0 : Int) := h
 rw [h3, beq_self_eq_true] at h2
 cases h2
theorem z32b : Byt Z32 := rep_byt 32
theorem z32l : Z32.length = 32 := List.length_replicate ..
set_option maxRecDepth 100000 in
theorem awake13 : reliquarylaw13_awake.rel := by
 have hl4 : (newD 4).p.length = 4 := newD_len 4
 have hj : JOk (newD 4).p.length J0 := by rw [hl4]; exact J0_ok
 have h1 := jn_new (newD 4) (by omega) K1 1 2 0 0 Z32 1 100 (by omega) (by omega)
 have e0 : newB (newD 4).p.length 1 2 0 0 1 100 = false := by rw [hl4]; decide
 rw [e0, if_neg (by simp), if_neg (by simp)] at h1
 have hx : ∀ x ∈ ([X3, X3, X3] : List RI), Byt x.2 := fun x hx => by
  simp at hx; subst hx; exact rep_byt 160
 have hx1 : ∀ x ∈ ([X3] : List RI), Byt x.2 := fun x hx => by
  simp at hx; subst hx; exact rep_byt 160
 have h160 : ∀ x ∈ ([X3] : List RI), x.2.length = 160 := fun x hx => by
  simp at hx; subst hx; exact List.length_replicate ..
 have hA := jn_append (newD 4) J0 [X3, X3, X3] (newD_wf 4 (by omega)) hj (by simp) hx (by simp [newD]) (by simp [newD])
 have eA : appendJ (newD 4) J0 [X3, X3, X3] = (newD 4, 1, 0, 0, Z32, 17) := by
  unfold appendJ
  rw [if_neg (by decide), if_pos (by decide)]
  rfl
 rw [eA] at hA
 have hB := jn_append (newD 4) J0 [X3] (newD_wf 4 (by omega)) hj (by simp) hx1 (by simp [newD]) (by simp [newD])
 have eB := appendJ_ok (d := newD 4) (j := J0) (l := [X3]) (by simp) h160 (by decide) (by decide) rfl (by decide) hj
 rw [eB] at hB
 obtain ⟨tg, htg⟩ : ∃ t, t = tgJ J0.key J0.first J0.size J0.start (recsOf [X3]) J0.next J0.count J0.tag := ⟨_, rfl⟩
 obtain ⟨ws, hws⟩ : ∃ t, t = wsJ J0.key J0.first J0.size J0.start (recsOf [X3]) J0.next J0.count := ⟨_, rfl⟩
 have hwl : ws.length = 1 := by rw [hws, wsJ_length, recsOf_length]; rfl
 have htl := tgJ_ok J0.key J0.first J0.size J0.start (recsOf [X3]) J0.next J0.count J0.tag ⟨rep_byt 32, List.length_replicate ..⟩
 rw [← htg] at htl hB
 rw [← hws] at hB
 obtain ⟨d2, hd2⟩ : ∃ d : DS, d = { newD 4 with u := (newD 4).u ++ ws, ops := (newD 4).ops ++ ws.map fun x => (2, x.1) } := ⟨_, rfl⟩
 rw [← hd2] at hB
 have hp2 : d2.u.length = 1 := by rw [hd2]; show ([] ++ ws).length = 1; rw [List.nil_append, hwl]
 obtain ⟨j2, hj2⟩ : ∃ j : JS, j = ⟨K1, 1, 2, 0, 0, Z32, 2, 100⟩ := ⟨_, rfl⟩
 have hok2 : JOk 4 j2 := by rw [hj2]; exact J0_ok.next (x := 2) (by omega)
 have hC := jn_adopt d2 j2 0 1 tg 100
 have hok3 : JOk 4 (adoptJ j2 0 1 tg 100) := adoptJ_ok hok2 (by omega) (by omega) htl (by omega)
 have e3 : adoptJ j2 0 1 tg 100 = ⟨K1, 1, 2, 0, 1, tg, 2, 100⟩ := by rw [hj2]; rfl
 have hD := jn_state d2 (adoptJ j2 0 1 tg 100)
 have hE := jn_room d2 (adoptJ j2 0 1 tg 100) hok3
 have hF := jn_empty d2 (adoptJ j2 0 1 tg 100) hok3
 rw [e3] at hC hD hE hF
 rw [hj2] at hC
 have hP := dk_pending d2
 have hL := link_rel Z32 0 [] (rep_byt 32) (fun x hx => by cases hx) (by omega) (by decide) (by simp)
 refine ⟨_, _, dk_new 4 (by omega) (by omega), _, _, _, _, _, rfl, _, rfl, _, _, _, _, _, _, _, h1, _, _, _, _, _, _, _, _, rfl, _, _, _, _, _, _, _, _, _, _, _, _, _, _, _, _, _, hA, _, _, _, _, _, _, _, _, _, _, _, _, _, _, _, _, _, hB, _, _, _, _, _, _, _, _, _, _, _, _, _, hC, _, _, _, _, _, _, _, _, _, _, _, _, _, _, _, _, _, hD, rfl, rfl, rfl, ?_, rfl, _, _, _, _, _, _, _, _, _, _, _, _, _, _, hE, rfl, _, _, _, _, _, _, _, _, _, _, _, _, _, _, _, _, hF, rfl, _, _, _, _, _, _, hP, ?_, _, rfl, _, hL, _, rfl, link_zero⟩
 ·show ((0 : Int) == 0 && ((1 : Int) == 1 && (tg == tg && true))) = true
  rw [beq_self_eq_true tg]; rfl
 rw [hp2]; rfl
end Go.Proofs.YtmhcjafkdmcgoaaDoor
