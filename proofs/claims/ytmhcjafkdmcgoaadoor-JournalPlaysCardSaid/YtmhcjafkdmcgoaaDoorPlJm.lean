/- Journal: the reference computes the same; plainly. -/
import Derived.Test.YtmhcjafkdmcgoaaDoorPlJi
import Derived.Test.YtmhcjafkdmcgoaaDoorPlJr
namespace Go.Proofs.YtmhcjafkdmcgoaaDoor
open Go Go.Kr Go.RowKit
set_option linter.unusedVariables false
set_option linter.unusedSimpArgs false
abbrev MI : Type := R116
abbrev MR : Type := R118
def modelL (l : List RI) : List MI := l.map fun x => (x.1, strOfNums x.2)
theorem modelL_length (l : List RI) : (modelL l).length = l.length := by simp [modelL]
theorem modelL_gx {l : List RI} {i : Nat} (h : i < l.length) : gx (modelL l) i = ((gx l i).1, strOfNums (gx l i).2) := by
 rw [gx_lt (by rw [modelL_length]; exact h), gx_lt h]
 simp [modelL]
theorem model_L1 (l : List RI) (hl : l.length ≤ 1000000) : ∀ (d f i : Nat), i + d = l.length → d < f → reliquarylaw13_modelOf.L1 l (modelL l) f ((modelL l).take i) i := by
 intro d
 induction d with
 | zero =>
  intro f i h1 h2
  obtain ⟨f, rfl⟩ : ∃ m, f = m + 1 := ⟨f - 1, by omega⟩
  exact .inr ⟨by omega, by rw [List.take_of_length_le (by rw [modelL_length]; omega)]⟩
 | succ d ih =>
  intro f i h1 h2
  obtain ⟨f, rfl⟩ : ∃ m, f = m + 1 := ⟨f - 1, by omega⟩
  have hm := modelL_length l
  have H := ih f (i + 1) (by omega) (by omega)
  rw [List.take_succ_eq_append_getElem (by omega), ← gx_lt (by omega), modelL_gx (by omega)] at H
  unfold reliquarylaw13_modelOf.L1
  rw [Int.toNat_natCast]
  refine .inl ⟨by omega, ⟨by omega, by omega⟩, ⟨by omega, by omega⟩, _, rfl, by rw [List.length_append, List.length_take]; simp; omega, ?_⟩
  rw [show IntKind.i64.wrap ((i : Int) + 1) = ((i + 1 : Nat) : Int) by rw [w64 (by omega) (by omega)]; omega]
  exact H
theorem model_rel (l : List RI) (hl : l.length ≤ 1000000) : reliquarylaw13_modelOf.rel l (modelL l) := by
 have := model_L1 l hl l.length (l.length + 1) 0 (by omega) (by omega)
 rw [List.take_zero] at this
 exact ⟨_, this⟩
def toM (r : RR) : MR := (r.1, strOfNums r.2.1, r.2.2)
theorem rof12_L1 (l : List RI) (hl : l.length ≤ 1000000) : ∀ (d f i : Nat) (z : Int), i + d = l.length → d < f → (∀ q, q < i → oddI (gx l q) = false) →
  reliquaryref12_Of.L1 (modelL l) (if l.any oddI = true then [] else (recsOf l).map toM) (if l.any oddI = true then 1 else 0) f (((recsOf l).map toM).take i) z i := by
 have hm := modelL_length l
 have hr : ((recsOf l).map toM).length = l.length := by rw [List.length_map, recsOf_length]
 intro d
 induction d with
 | zero =>
  intro f i z h1 h2 h3
  obtain ⟨f, rfl⟩ : ∃ m, f = m + 1 := ⟨f - 1, by omega⟩
  have : l.any oddI = false := List.any_eq_false.2 fun x hx => by
   obtain ⟨p, hp, rfl⟩ := List.getElem_of_mem hx
   rw [← gx_lt hp, h3 p (by omega)]; simp
  rw [this, if_neg (by simp), if_neg (by simp)]
  exact .inr ⟨by omega, by rw [List.take_of_length_le (by omega)], rfl⟩
 | succ d ih =>
  intro f i z h1 h2 h3
  obtain ⟨f, rfl⟩ : ∃ m, f = m + 1 := ⟨f - 1, by omega⟩
  cases c : oddI (gx l i) with
  | true =>
   have : l.any oddI = true := List.any_eq_true.2 ⟨_, gx_mem (by omega), c⟩
   rw [this, if_pos rfl, if_pos rfl]
   unfold reliquaryref12_Of.L1
   rw [Int.toNat_natCast, modelL_gx (by omega)]
   refine .inl ⟨by omega, ⟨by omega, by omega⟩, .inl ⟨?_, rfl, rfl⟩⟩
   unfold oddI at c
   simp at c
   rw [size_strOf]; omega
  | false =>
   have H := ih f (i + 1) z (by omega) (by omega) fun q h => by
    by_cases c2 : q = i
    ·rw [c2, c]
    exact h3 q (by omega)
   have h160 := oddI_not c
   have hri := recsOf_length l
   rw [List.take_succ_eq_append_getElem (by omega), List.getElem_map, ← gx_lt (by omega), recsOf_gx (by omega)] at H
   unfold reliquaryref12_Of.L1
   rw [Int.toNat_natCast, modelL_gx (by omega)]
   refine .inl ⟨by omega, ⟨by omega, by omega⟩, .inr ⟨by rw [size_strOf]; omega, ⟨by omega, by omega⟩, _, rfl, by rw [List.length_append, List.length_take]; simp; omega, ?_⟩⟩
   rw [show IntKind.i64.wrap ((i : Int) + 1) = ((i + 1 : Nat) : Int) by rw [w64 (by omega) (by omega)]; omega, hm]
   rw [show (((i + 1 : Nat) : Int) == (l.length : Int)) = decide (i + 1 = l.length) by
    rw [Bool.eq_iff_iff, beq_iff_eq, decide_eq_true_iff]; omega]
   exact H
theorem rof12_rel (l : List RI) (hl : l.length ≤ 1000000) : reliquaryref12_Of.rel (modelL l) (if ofB l = true then [] else (recsOf l).map toM) (if ofB l = true then 1 else 0) := by
 by_cases c1 : l.length = 0
 ·obtain rfl := List.eq_nil_of_length_eq_zero c1
  exact .inl ⟨rfl, rfl, rfl⟩
 refine .inr ⟨by rw [modelL_length]; omega, l.length + 1, ?_⟩
 have := rof12_L1 l hl l.length (l.length + 1) 0 0 (by omega) (by omega) (fun q h => by omega)
 have e : ofB l = l.any oddI := by
  unfold ofB
  cases l with
  | nil => simp at c1
  | cons a l => rfl
 rw [e]
 rw [List.take_zero] at this
 exact this
theorem jm_append (a b : List Int) : strOfNums a ++ strOfNums b = strOfNums (a ++ b) := by
 apply ByteArray.ext
 rw [ByteArray.data_append]
 simp [strOfNums]
theorem rput12_rel (r : RR) (h : r.2.1.length = 160) (hx : 0 ≤ r.1 ∧ r.1 < 18446744073709551616) : reliquaryref12_Put.rel (toM r).1 (toM r).2.1 (toM r).2.2 (strOfNums (recb r.1 r.2.1 r.2.2)) 0 := by
 have hput := rput_rel r.1 hx 8 (by omega)
 have e : ∀ x : Int, strOfNums ([1, x, 0, 0, 0, 0, 0, 0] ++ putf r.1 8) ++ strOfNums r.2.1 = strOfNums ([1, x, 0, 0, 0, 0, 0, 0] ++ (putf r.1 8 ++ r.2.1)) := fun x => by
  rw [jm_append, List.append_assoc]
 show reliquaryref12_Put.rel r.1 (strOfNums r.2.1) r.2.2 (strOfNums (recb r.1 r.2.1 r.2.2)) 0
 refine .inr ⟨by rw [size_strOf]; omega, ?_⟩
 unfold recb
 cases hl : r.2.2
 ·exact .inr ⟨by simp, _, hput, _, rfl, by rw [List.length_append, putf_length]; simp, by rw [size_strOf, size_strOf, List.length_append, putf_length]; simp; omega, (e 0).symm, rfl⟩
 exact .inl ⟨rfl, ⟨by omega, by simp⟩, _, rfl, _, hput, _, rfl, by rw [List.length_append, putf_length]; simp, by rw [size_strOf, size_strOf, List.length_append, putf_length]; simp; omega, (e 1).symm, rfl⟩
theorem rlink_rel (tag : List Int) (p : Int) (slot : List Int) (hb : Byt tag) (hs : Byt slot) (hp : 0 ≤ p ∧ p < 4294967296) (hl : tag.length ≤ 100) (hsl : slot.length ≤ 100000) : reliquaryref13_Link.rel tag p (strOfNums slot) (linkf tag p slot) := by
 have hput := rput_rel p ⟨hp.1, by omega⟩ 4 (by omega)
 have e : [255] ++ tag ++ putf p 4 ++ slot = [255] ++ (tag ++ (putf p 4 ++ slot)) := by simp
 have hof := rof_rel ([255] ++ (tag ++ (putf p 4 ++ slot))) (link_byt p hb hs) (by rw [link_len]; omega)
 refine ⟨_, rfl, by simp; omega, putf p 4, ?_, _, rfl, by simp [putf_length]; omega, _, rfl, ?_⟩
 ·rw [wu64 hp.1 (by omega)]; exact hput
 rw [bl_strOfNums hs, e]
 exact ⟨by rw [link_len]; omega, _, hof, rfl⟩
theorem rf_run_L1 (key : List Int) (first size st count : Int) (tag : List Int) (limit : Int) (l : List RR) (x : Int) (D : List R124) (hk : Byt key ∧ key.length = 32) (hst : 0 ≤ st ∧ st ≤ 100000) (hll : l.length ≤ 10000) (hr : ∀ r ∈ l, (0 ≤ r.1 ∧ r.1 < 18446744073709551616) ∧ Byt r.2.1 ∧ r.2.1.length = 160) :
  ∀ (rs : List RR) (f i n : Nat) (d : DS) (nx c : Int) (t : List Int) (e : Int), l.drop i = rs → rs.length < f → Inv n d D → n + rs.length ≤ 100000 → d.p.length ≤ 4096 → (0 ≤ first ∧ 1 ≤ size ∧ first + size ≤ (d.p.length : Int)) → 1 ≤ nx → nx + rs.length < 9223372036854775808 → 0 ≤ c → c + rs.length ≤ 1000000 → Byt t ∧ t.length = 32 → (rs = [] → e = e) →
   reliquaryref13_Append.L1 key first size st count tag limit ((runJ key first size st rs d nx c t).1.p.length : Int) (D.map toW) ((runJ key first size st rs d nx c t).1.u.map toW) (runJ key first size st rs d nx c t).1.left (runJ key first size st rs d nx c t).1.down (runJ key first size st rs d nx c t).1.ops
    key first size st count tag (runJ key first size st rs d nx c t).2.1 limit (runJ key first size st rs d nx c t).2.2.1 (runJ key first size st rs d nx c t).2.2.2.1 (runJ key first size st rs d nx c t).2.2.2.2.1 (runJ key first size st rs d nx c t).2.2.2.2.2 (l.map toM) f c t nx (d.p.length : Int) (D.map toW) (d.u.map toW) d.left d.down d.ops x e i := by
 have hlm : (l.map toM).length = l.length := List.length_map ..
 intro rs
 induction rs with
 | nil =>
  intro f i n d nx c t e h0 h1 _ _ _ _ _ _ _ _ _ _
  obtain ⟨f, rfl⟩ : ∃ m, f = m + 1 := ⟨f - 1, by omega⟩
  have hi : l.length ≤ i := by
   have := congrArg List.length h0
   simp at this; omega
  exact .inr ⟨by omega, rfl, rfl, rfl, rfl, rfl, rfl, rfl, rfl, rfl, rfl, rfl, rfl, rfl, rfl, rfl, rfl, rfl, rfl⟩
 | cons r rs ih =>
  intro f i n d nx c t e h0 h1 hI hn hp4 hp h2 h3 h4 h5 ht _
  obtain ⟨f, rfl⟩ : ∃ m, f = m + 1 := ⟨f - 1, by omega⟩
  rw [List.length_cons] at h1 h3 h5 hn
  have hi : i < l.length := by
   have := congrArg List.length h0
   simp at this; omega
  have hg : gx l i = r := by
   rw [gx_lt hi]
   rw [List.drop_eq_getElem_cons hi] at h0
   exact (List.cons.inj h0).1
  have hd1 : l.drop (i + 1) = rs := by
   rw [List.drop_eq_getElem_cons hi] at h0
   exact (List.cons.inj h0).2
  have hgm : gx (l.map toM) i = toM r := by rw [gx_map toM hi, hg]
  have hrr := hr r (by rw [← hg]; exact gx_mem hi)
  have hpr := placeJ_range (st := st) (cnt := c) d.p.length hp
  have e0 : IntKind.u64.wrap (st + c) = st + c := wu64 (by omega) (by omega)
  have e1 : Int.tmod (st + c) size = (st + c) % size := Int.tmod_eq_emod_of_nonneg (by omega)
  have e2 : IntKind.i64.wrap ((st + c) % size) = (st + c) % size := w64 (by omega) (by omega)
  have e3 : ∀ q : Int, q = (st + c) % size → IntKind.i64.wrap (first + q) = placeJ first size st c := fun q h => by rw [h]; exact w64 (by omega) (by omega)
  have e4 : IntKind.u32.wrap (placeJ first size st c) = placeJ first size st c := wu32 (by omega) (by omega)
  have hs := rseal_rel key (placeJ first size st c) nx (recb r.1 r.2.1 r.2.2) hk.1 hk.2 (by omega) (by omega) (recb_byt _ _ hrr.2.1) (by rw [recb_length hrr.2.2]; omega)
  have es : sealf key (placeJ first size st c) nx (recb r.1 r.2.1 r.2.2) = (slotJ key (placeJ first size st c) nx r, 0) := by
   unfold sealf
   rw [recb_length hrr.2.2, if_neg (by omega), if_neg (by omega)]
   rfl
  rw [es] at hs
  have hlk := rlink_rel t (placeJ first size st c) (slotJ key (placeJ first size st c) nx r) ht.1 (slotJ_byt _ _ _ hrr.2.1) (by omega) (by omega) (by rw [slotJ_length _ _ _ hrr.2.2]; omega)
  have hw := rf_write d D (placeJ first size st c) (slotJ key (placeJ first size st c) nx r) n hI (by omega)
  have hI2 := hI.write (by omega) (placeJ first size st c) (slotJ key (placeJ first size st c) nx r)
  unfold runJ reliquaryref13_Append.L1
  rw [Int.toNat_natCast, hgm, e0, e1, e2]
  refine .inl ⟨by omega, by omega, _, rfl, ⟨by omega, by omega⟩, ?_⟩
  rw [e3 _ rfl, e4]
  refine ⟨_, _, rput12_rel r hrr.2.2 hrr.1, _, _, hs, _, _, _, _, _, _, _, hw, ?_⟩
  by_cases he : (writeD d (placeJ first size st c) (slotJ key (placeJ first size st c) nx r)).2 ≠ 0
  ·rw [if_pos he]
   refine .inl ⟨he, ?_, rfl, rfl, rfl, rfl, rfl, rfl, rfl, rfl, rfl, rfl, rfl, ?_, rfl, rfl, rfl, rfl, rfl⟩
   ·rw [hI2.2]
   exact (wu64 (x := nx + 1) (by omega) (by omega)).symm
  rw [if_neg he]
  refine .inr ⟨he, _, hlk, ?_⟩
  rw [show IntKind.i64.wrap ((i : Int) + 1) = ((i + 1 : Nat) : Int) by rw [w64 (by omega) (by omega)]; omega, wu64 (x := c + 1) (by omega) (by omega), wu64 (x := nx + 1) (by omega) (by omega)]
  have H := ih f (i + 1) (n + 1) (writeD d (placeJ first size st c) (slotJ key (placeJ first size st c) nx r)).1 (nx + 1) (c + 1) (linkf t (placeJ first size st c) (slotJ key (placeJ first size st c) nx r)) (writeD d (placeJ first size st c) (slotJ key (placeJ first size st c) nx r)).2 hd1 (by omega) hI2.1 (by omega) (by rw [hI2.2]; exact hp4) (by rw [hI2.2]; exact hp) (by omega) (by omega) (by omega) (by omega) ⟨linkf_byt _ _ _, linkf_length _ _ _⟩ (fun _ => rfl)
  rw [hI2.2] at H
  exact H
theorem rf_append (d : DS) (D : List R124) (j : JS) (l : List RI) (n : Nat) (hI : Inv n d D) (hn : n + l.length ≤ 100000) (hj : JOk d.p.length j) (hll : l.length ≤ 1000) (hb : ∀ x ∈ l, (0 ≤ x.1 ∧ x.1 < 18446744073709551616) ∧ Byt x.2) :
  reliquaryref13_Append.rel (d.p.length : Int) (D.map toW) (d.u.map toW) d.left d.down d.ops j.key j.first j.size j.start j.count j.tag j.next j.limit (modelL l)
   ((appendJ d j l).1.p.length : Int) (D.map toW) ((appendJ d j l).1.u.map toW) (appendJ d j l).1.left (appendJ d j l).1.down (appendJ d j l).1.ops j.key j.first j.size j.start j.count j.tag (appendJ d j l).2.1 j.limit (appendJ d j l).2.2.1 (appendJ d j l).2.2.2.1 (appendJ d j l).2.2.2.2.1 (appendJ d j l).2.2.2.2.2 := by
 have hf := hj.few; have hpl := hj.pl; have hcn := hj.cnt; have hst := hj.st; have hnx := hj.nx; have hlm := hj.lim
 refine ⟨_, _, rof12_rel l (by omega), ?_⟩
 unfold appendJ
 by_cases c1 : ofB l = true
 ·rw [if_pos c1, if_pos c1, if_pos c1]
  exact .inl ⟨by omega, rfl, rfl, rfl, rfl, rfl, rfl, rfl, rfl, rfl, rfl, rfl, rfl, rfl, rfl, rfl, rfl, rfl, rfl⟩
 rw [if_neg c1, if_neg c1, if_neg c1]
 refine .inr ⟨by simp, ?_⟩
 rw [List.length_map, recsOf_length, wu64 (x := (l.length : Int)) (by omega) (by omega), wu64 (x := j.size - j.count) (by omega) (by omega)]
 by_cases c2 : (l.length : Int) > j.size - j.count
 ·rw [if_pos c2]
  exact .inl ⟨c2, rfl, rfl, rfl, rfl, rfl, rfl, rfl, rfl, rfl, rfl, rfl, rfl, rfl, rfl, rfl, rfl, rfl, rfl⟩
 rw [if_neg c2]
 refine .inr ⟨c2, ?_⟩
 by_cases c3 : j.next > j.limit
 ·rw [if_pos c3]
  exact .inl ⟨c3, rfl, rfl, rfl, rfl, rfl, rfl, rfl, rfl, rfl, rfl, rfl, rfl, rfl, rfl, rfl, rfl, rfl, rfl⟩
 rw [if_neg c3]
 refine .inr ⟨c3, ?_⟩
 rw [wu64 (x := j.limit - j.next) (by omega) (by omega)]
 by_cases c4 : (l.length : Int) > j.limit - j.next
 ·rw [if_pos c4]
  exact .inl ⟨c4, rfl, rfl, rfl, rfl, rfl, rfl, rfl, rfl, rfl, rfl, rfl, rfl, rfl, rfl, rfl, rfl, rfl, rfl⟩
 rw [if_neg c4]
 have hlen := recsOf_length l
 have c5 : ∀ x ∈ l, oddI x = false := fun x hx => by
  have : ofB l = false := by simpa using c1
  unfold ofB at this
  rw [Bool.or_eq_false_iff] at this
  simpa using List.any_eq_false.1 this.2 x hx
 refine .inr ⟨c4, l.length + 1, ?_⟩
 refine rf_run_L1 j.key j.first j.size j.start j.count j.tag j.limit (recsOf l) 0 D hj.key (by omega) (by omega) (fun r hr => ?_) (recsOf l) _ 0 n d j.next j.count j.tag 0 rfl (by omega) hI (by omega) hf hpl (by omega) (by omega) (by omega) (by omega) hj.tag (fun _ => rfl)
 obtain ⟨p, hp, rfl⟩ := List.getElem_of_mem hr
 rw [← gx_lt hp, recsOf_gx (by omega)]
 have hm := gx_mem (l := l) (i := p) (by omega)
 exact ⟨(hb _ hm).1, (hb _ hm).2, oddI_not (c5 _ hm)⟩
theorem jm_same_L1 (d : DS) (D : List R124) (n : Nat) (h : Inv n d D) (b : Bool) : ∀ (k f i : Nat), i + k = d.p.length → k < f → reliquarylaw13_sameDisk.L1 d.p d.u d.left d.down d.ops true d.p (imW D d.p.length) d.p d.u d.left d.down d.ops f b i := by
 have hf := h.wf.few
 intro k
 induction k with
 | zero =>
  intro f i h1 h2
  obtain ⟨f, rfl⟩ : ∃ m, f = m + 1 := ⟨f - 1, by omega⟩
  exact .inr ⟨by omega, rfl, rfl, rfl, rfl, rfl, rfl⟩
 | succ k ih =>
  intro f i h1 h2
  obtain ⟨f, rfl⟩ : ∃ m, f = m + 1 := ⟨f - 1, by omega⟩
  refine .inl ⟨by omega, ⟨by omega, by omega⟩, ⟨by omega, by rw [imW_length]; omega⟩, .inr ⟨?_, ?_⟩⟩
  ·rw [Int.toNat_natCast, imW_gx D (by omega), h.at_ i (by omega)]
   exact fun h => h rfl
  rw [show IntKind.i64.wrap ((i : Int) + 1) = ((i + 1 : Nat) : Int) by rw [w64 (by omega) (by omega)]; omega]
  exact ih f (i + 1) (by omega) (by omega)
theorem jm_same (d : DS) (D : List R124) (n : Nat) (h : Inv n d D) (hn : n ≤ 100000) :
  reliquarylaw13_sameDisk.rel d.p d.u d.left d.down d.ops (d.p.length : Int) (D.map toW) (d.u.map toW) d.left d.down d.ops d.p d.u d.left d.down d.ops true := by
 have hf := h.wf.few
 have hD := h.few
 exact ⟨_, _, _, _, _, _, dk_image d h.wf, _, rf_image d.p.length D _ _ _ _ (by omega) hf.2.2, .inr ⟨by rw [imW_length]; exact fun h => h rfl, _, _, _, _, _, _, dk_pending d, .inr ⟨by rw [List.length_map]; exact fun h => h rfl, _, _, _, _, _, _, dk_ops d h.wf, .inr ⟨fun h => h rfl, d.p.length + 1, jm_same_L1 d D n h false d.p.length _ 0 (by omega) (by omega)⟩⟩⟩⟩
theorem rnew13_rel (n : Nat) (hn : n ≤ 4096) (key : List Int) (first size st cnt : Int) (tag : List Int) (next limit : Int) (h : newB n first size st cnt next limit = false) (hf : -9223372036854775808 ≤ first ∧ first ≤ 9223372036854775807) (hs : -9223372036854775808 ≤ size ∧ size ≤ 9223372036854775807) :
  reliquaryref13_New.rel n key first size st cnt tag next limit key first size st cnt tag next limit 0 := by
 unfold newB at h
 rw [decide_eq_false_iff_not] at h
 have e1 : IntKind.i64.wrap ((n : Int) - first) = n - first := w64 (by omega) (by omega)
 have e2 : IntKind.u64.wrap size = size := wu64 (by omega) (by omega)
 unfold reliquaryref13_New.rel
 rw [e1, e2]
 exact .inr ⟨by omega, .inr ⟨by omega, .inr ⟨by omega, .inr ⟨by omega, .inr ⟨by omega, .inr ⟨by omega, .inr ⟨by omega, .inr ⟨by omega, rfl, rfl, rfl, rfl, rfl, rfl, rfl, rfl, rfl⟩⟩⟩⟩⟩⟩⟩⟩
theorem runJ_inv (key : List Int) (first size st : Int) (D : List R124) : ∀ (rs : List RR) (d : DS) (nx c : Int) (t : List Int) (n : Nat), Inv n d D → n + rs.length ≤ 100000 → Inv (n + rs.length) (runJ key first size st rs d nx c t).1 D ∧ (runJ key first size st rs d nx c t).1.p = d.p
  | [], d, nx, c, t, n, h, _ => ⟨h, rfl⟩
  | r :: rs, d, nx, c, t, n, h, hn => by
    rw [List.length_cons] at hn ⊢
    have hI := h.write (by omega) (placeJ first size st c) (slotJ key (placeJ first size st c) nx r)
    have up : ∀ (m q : Nat) (e : DS), Inv m e D → m ≤ q → Inv q e D := fun m q e he hmq => by
      obtain ⟨s, rfl⟩ : ∃ s, q = m + s := ⟨q - m, by omega⟩
      clear hmq
      induction s with
      | zero => exact he
      | succ s ih => exact ih.up
    unfold runJ
    by_cases he : (writeD d (placeJ first size st c) (slotJ key (placeJ first size st c) nx r)).2 ≠ 0
    · rw [if_pos he]
      exact ⟨up _ _ _ hI.1 (by omega), hI.2⟩
    · rw [if_neg he]
      have := runJ_inv key first size st D rs _ (nx + 1) (c + 1) (linkf t (placeJ first size st c) (slotJ key (placeJ first size st c) nx r)) (n + 1) hI.1 (by omega)
      rw [show n + (rs.length + 1) = n + 1 + rs.length by omega]
      exact ⟨this.1, this.2.trans hI.2⟩
theorem appendJ_inv {d : DS} {D : List R124} {j : JS} {l : List RI} {n : Nat} (h : Inv n d D) (hn : n + l.length ≤ 100000) : Inv (n + l.length) (appendJ d j l).1 D ∧ (appendJ d j l).1.p = d.p := by
 have up : ∀ s : Nat, Inv (n + s) d D := fun s => by
  induction s with
  | zero => exact h
  | succ s ih => exact ih.up
 unfold appendJ
 split
 ·exact ⟨up _, rfl⟩
 split
 ·exact ⟨up _, rfl⟩
 split
 ·exact ⟨up _, rfl⟩
 split
 ·exact ⟨up _, rfl⟩
 have := runJ_inv j.key j.first j.size j.start D (recsOf l) d j.next j.count j.tag n h (by rw [recsOf_length]; exact hn)
 rwa [recsOf_length] at this
def ok42 (x : RI) : Prop := (0 ≤ x.1 ∧ x.1 < 18446744073709551616) ∧ (x.2.length ≤ 9223372036854775807 ∧ Byt x.2)
theorem imgL_ok {l : List RI} (s : Bool) (h : ∀ x ∈ l, ok42 x) : ∀ x ∈ imgL l s, (0 ≤ x.1 ∧ x.1 < 18446744073709551616) ∧ Byt x.2 := fun x hx => by
 have hl := imgL_length l s
 obtain ⟨p, hp, rfl⟩ := List.getElem_of_mem hx
 rw [← gx_lt hp, imgL_gx (by omega)]
 have := h _ (gx_mem (l := l) (i := p) (by omega))
 exact ⟨this.1, fitN_byt _ this.2.2⟩
end Go.Proofs.YtmhcjafkdmcgoaaDoor
