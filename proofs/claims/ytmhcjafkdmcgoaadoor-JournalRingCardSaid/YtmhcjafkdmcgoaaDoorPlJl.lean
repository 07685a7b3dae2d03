/- Journal: the laws JournalLinks and JournalRing, plainly. -/
import Derived.Test.YtmhcjafkdmcgoaaDoorPlJo
namespace Go.Proofs.YtmhcjafkdmcgoaaDoor
open Go Go.Kr Go.RowKit
set_option linter.unusedVariables false
set_option linter.unusedSimpArgs false

def zl (n : Nat) : List RI := (List.range n).map fun i : Nat => ((i : Int), List.replicate 160 (0 : Int))
theorem zl_length (n : Nat) : (zl n).length = n := by simp [zl]
theorem zl_succ (n : Nat) : zl (n + 1) = zl n ++ ([((n : Int), List.replicate 160 (0 : Int))] : List RI) := by
  unfold zl; rw [List.range_succ, List.map_append]; rfl
theorem zl_160 (n : Nat) : ∀ x ∈ zl n, x.2.length = 160 := fun x hx => by
  obtain ⟨i, _, rfl⟩ := List.mem_map.1 hx
  exact List.length_replicate ..
theorem zl_byt (n : Nat) : ∀ x ∈ zl n, Byt x.2 := fun x hx => by
  obtain ⟨i, _, rfl⟩ := List.mem_map.1 hx
  exact rep_byt 160
theorem wsJ_gx (key : List Int) (first size st : Int) : ∀ (rs : List RR) (nx c : Int) (x : Nat), x < rs.length → (gx (wsJ key first size st rs nx c) x).1 = placeJ first size st (c + x)
  | [], _, _, x, h => by simp at h
  | r :: rs, nx, c, 0, _ => by
    show placeJ first size st c = placeJ first size st (c + ((0 : Nat) : Int))
    rw [Int.natCast_zero, Int.add_zero]
  | r :: rs, nx, c, x + 1, h => by
    rw [wsJ, gx_cons_succ, wsJ_gx key first size st rs (nx + 1) (c + 1) x (by simpa using h)]
    congr 1
    omega
theorem adoptJ_at (key : List Int) (first size st cnt : Int) (tag : List Int) (nx : Int) (s c : Int) (t : List Int) (h1 : s < size) (h2 : c ≤ size) : adoptJ ⟨key, first, size, st, cnt, tag, nx, 1099511627776⟩ s c t 1099511627776 = ⟨key, first, size, s, c, t, nx, 1099511627776⟩ := by
  unfold adoptJ
  rw [if_pos ⟨h1, h2⟩]
  rfl
theorem ring_L3 (a1 s i x108 : Int) (k n : Nat) (hk : IntKind.i64.wrap (IntKind.i64.wrap (Int.tmod a1 9) + 1) = (k : Int)) (hk1 : 1 ≤ k ∧ k ≤ 9) (hn : 1 ≤ n ∧ n ≤ k) (hx : x108 = (n : Int) - 1) (hs : 0 ≤ s ∧ s < (k : Int)) (hi : 0 ≤ i ∧ i < 100)
    (d : DS) (key tag T : List Int) (nx : Int) (ws : List R124) (was : List R48) (hops : d.ops = was ++ ws.map fun x => (2, x.1)) (hws : ws.length = n) (hwx : ∀ x : Nat, x < n → (gx ws x).1 = 2 + (s + x) % (k : Int)) (hwl : was.length ≤ 100000)
    (hj : JOk d.p.length ⟨key, 2, k, s, 0, tag, nx, 1099511627776⟩) (hT : Byt T ∧ T.length = 32) (b : Bool) (K : (List R25) → (List R124) → (List R48) → Int → Bool → (List Int) → Int → Int → Int → Int → (List Int) → Int → Int → Bool → Int → Int → Prop)
    (hK : K d.p d.u d.ops d.left d.down key 2 k ((s + n) % (k : Int)) 0 Z32 nx 1099511627776 b ((s + n) % (k : Int)) (i + 1)) :
    ∀ (m f x : Nat), x + m = n → m < f → reliquarylaw13_JournalRing.L3 a1 s i x108 was key 2 k s 0 tag nx 1099511627776 s n T d.p d.u d.left d.down d.ops d.ops K f b x := by
  have hx1 : IntKind.i64.wrap (x108 + 1) = (n : Int) := by rw [w64 (by omega) (by omega)]; omega
  have h1 := Int.emod_nonneg (s + n) (show (k : Int) ≠ 0 by omega)
  have h2 := Int.emod_lt_of_pos (s + n) (show (0 : Int) < k by omega)
  have hol : d.ops.length = was.length + n := by rw [hops, List.length_append, List.length_map, hws]
  intro m
  induction m with
  | zero =>
    intro f x h3 h4
    obtain ⟨f, rfl⟩ : ∃ q, f = q + 1 := ⟨f - 1, by omega⟩
    unfold reliquarylaw13_JournalRing.L3
    rw [hx1, hk]
    have hA := jn_adopt d ⟨key, 2, k, s, 0, tag, nx, 1099511627776⟩ s n T 1099511627776
    have hj2 := adoptJ_ok hj (st := s) (cnt := n) (tag := T) (limit := 1099511627776) hs.1 (by omega) hT (by decide)
    rw [adoptJ_at key 2 k s 0 tag nx s n T hs.2 (by omega)] at hA hj2
    have hR := jn_room d _ hj2
    have hE := jn_empty d _ hj2
    have hB := jn_adopt d ⟨key, 2, k, s, n, T, nx, 1099511627776⟩ ((s + n) % (k : Int)) 0 Z32 1099511627776
    rw [adoptJ_at key 2 k s n T nx _ 0 Z32 h2 (by omega)] at hB
    have e1 : Int.tmod (IntKind.i64.wrap (s + (n : Int))) (k : Int) = (s + n) % (k : Int) := by
      rw [w64 (by omega) (by omega), Int.tmod_eq_emod_of_nonneg (by omega)]
    refine .inr ⟨by omega, _, _, _, _, _, _, _, _, _, _, _, _, _, hA, by omega, _, rfl, _, _, _, _, _, _, _, _, _, _, _, _, _, _, hR, _, rfl, ?_, _, _, _, _, _, _, _, _, _, _, _, _, _, _, _, _, hE, ?_, _, _, _, _, _, _, _, _, _, _, _, _, _, _, _, _, hE, _, _, _, _, _, _, _, _, _, _, _, _, _, hB, ?_⟩
    · rw [w64 (by omega) (by omega), wu64 (by omega) (by omega)]; exact fun h => h rfl
    · rw [e1, wu64 (by omega) (by omega)]; exact fun h => h rfl
    · rw [e1, w64 (x := i + 1) (by omega) (by omega)]; exact hK
  | succ m ih =>
    intro f x h3 h4
    obtain ⟨f, rfl⟩ : ∃ q, f = q + 1 := ⟨f - 1, by omega⟩
    have H := ih f (x + 1) (by omega) (by omega)
    have e2 : IntKind.i64.wrap ((was.length : Int) + (x : Int)) = ((was.length + x : Nat) : Int) := by rw [w64 (by omega) (by omega)]; omega
    have e3 : gx d.ops (was.length + x) = (2, 2 + (s + x) % (k : Int)) := by
      rw [hops, gx_app_ge (by omega) (by rw [List.length_map]; omega), Nat.add_sub_cancel_left]
      have : gx (ws.map fun x => (((2 : Int), x.1) : R48)) x = ((2 : Int), (gx ws x).1) := by
        rw [gx_lt (by rw [List.length_map]; omega), gx_lt (by omega), List.getElem_map]
      rw [this, hwx x (by omega)]
    have h5 := Int.emod_nonneg (s + x) (show (k : Int) ≠ 0 by omega)
    have h6 := Int.emod_lt_of_pos (s + x) (show (0 : Int) < k by omega)
    have e4 : Int.tmod (IntKind.i64.wrap (s + (x : Int))) (k : Int) = (s + x) % (k : Int) := by
      rw [w64 (by omega) (by omega), Int.tmod_eq_emod_of_nonneg (by omega)]
    unfold reliquarylaw13_JournalRing.L3
    rw [hx1, hk, e2, Int.toNat_natCast, e3]
    refine .inl ⟨by omega, ⟨by omega, by omega⟩, fun h => h rfl, ⟨by omega, by omega⟩, by omega, _, rfl, ?_, ?_⟩
    · rw [e4, w64 (by omega) (by omega)]; exact fun h => h rfl
    · rw [show IntKind.i64.wrap ((x : Int) + 1) = ((x + 1 : Nat) : Int) by rw [w64 (by omega) (by omega)]; omega]
      exact H
theorem ring_L2 (a1 s i x108 : Int) (k n : Nat) (hk : IntKind.i64.wrap (IntKind.i64.wrap (Int.tmod a1 9) + 1) = (k : Int)) (hk1 : 1 ≤ k ∧ k ≤ 9) (hn : 1 ≤ n ∧ n ≤ k) (hx : x108 = (n : Int) - 1) (hs : 0 ≤ s ∧ s < (k : Int)) (hi : 0 ≤ i ∧ i < 100)
    (d : DS) (key : List Int) (nx : Int) (hd : d.Wf) (hdn : d.down = false) (hl : d.left = -1) (hu : d.u.length ≤ 1000 ∧ d.ops.length ≤ 1000) (hj : JOk d.p.length ⟨key, 2, k, s, 0, Z32, nx, 1099511627776⟩) (hnx : nx ≤ 1000) (b : Bool)
    (K : (List R25) → (List R124) → (List R48) → Int → Bool → (List Int) → Int → Int → Int → Int → (List Int) → Int → Int → Bool → Int → Int → Prop)
    (hK : ∀ d' : DS, d'.Wf → d'.down = false → d'.left = -1 → d'.p = d.p → d'.u.length = d.u.length + n → d'.ops.length = d.ops.length + n → JOk d'.p.length ⟨key, 2, k, (s + n) % (k : Int), 0, Z32, nx + n, 1099511627776⟩ → K d'.p d'.u d'.ops d'.left d'.down key 2 k ((s + n) % (k : Int)) 0 Z32 (nx + n) 1099511627776 b ((s + n) % (k : Int)) (i + 1)) :
    ∀ (m f x : Nat), x + m = n → m < f → reliquarylaw13_JournalRing.L2 a1 d.p d.u d.ops d.left d.down key 2 k s 0 Z32 nx 1099511627776 b s i x108 K f (zl x) x := by
  have hx1 : IntKind.i64.wrap (x108 + 1) = (n : Int) := by rw [w64 (by omega) (by omega)]; omega
  intro m
  induction m with
  | zero =>
    intro f x h3 h4
    obtain ⟨f, rfl⟩ : ∃ q, f = q + 1 := ⟨f - 1, by omega⟩
    obtain rfl : x = n := by omega
    have hnx1 := hj.nx
    have hpl := hj.pl
    simp only at hnx1 hpl
    have hA := jn_append d ⟨key, 2, k, s, 0, Z32, nx, 1099511627776⟩ (zl x) hd hj (by rw [zl_length]; omega) (zl_byt x) (by omega) (by omega)
    have eA := appendJ_ok (d := d) (j := ⟨key, 2, k, s, 0, Z32, nx, 1099511627776⟩) (l := zl x) (fun h => by have := congrArg List.length h; rw [zl_length] at this; simp at this; omega) (zl_160 x) (by rw [zl_length]; show (x : Int) ≤ (k : Int) - 0; omega) (by rw [zl_length]; show nx + (x : Int) ≤ 1099511627776; omega) hdn (by omega) hj
    rw [eA] at hA
    obtain ⟨T, hT⟩ : ∃ t, t = tgJ key 2 k s (recsOf (zl x)) nx 0 Z32 := ⟨_, rfl⟩
    obtain ⟨ws, hws⟩ : ∃ t, t = wsJ key 2 k s (recsOf (zl x)) nx 0 := ⟨_, rfl⟩
    have hTT := tgJ_ok key 2 k s (recsOf (zl x)) nx 0 Z32 ⟨rep_byt 32, List.length_replicate ..⟩
    have hwl : ws.length = x := by rw [hws, wsJ_length, recsOf_length, zl_length]
    have hwx : ∀ q : Nat, q < x → (gx ws q).1 = 2 + (s + q) % (k : Int) := fun q hq => by
      rw [hws, wsJ_gx key 2 k s (recsOf (zl x)) nx 0 q (by rw [recsOf_length, zl_length]; exact hq)]
      unfold placeJ
      rw [Int.zero_add]
    simp only [zl_length, Int.zero_add] at hA
    rw [← hT, ← hws] at hA
    rw [← hT] at hTT
    have hj3 : JOk ({ d with u := d.u ++ ws, ops := d.ops ++ ws.map fun x => (2, x.1) } : DS).p.length ⟨key, 2, k, s, 0, Z32, nx + x, 1099511627776⟩ := hj.next (x := nx + x) (by omega)
    have hw2 : ({ d with u := d.u ++ ws, ops := d.ops ++ ws.map fun x => (2, x.1) } : DS).Wf := by
      refine ⟨hd.rows, fun y hy => ?_, ⟨by simp only [List.length_append]; omega, by simp only [List.length_append, List.length_map]; omega, hd.few.2.2⟩, hd.num⟩
      rcases List.mem_append.1 hy with hy | hy
      · exact hd.way y hy
      · rw [hws] at hy
        exact wsJ_way key 2 k s hpl (recsOf (zl x)) nx 0 (recsOf_160 (zl_160 x)) y hy
    have hO := dk_ops d hd
    have hO2 := dk_ops ({ d with u := d.u ++ ws, ops := d.ops ++ ws.map fun x => (2, x.1) } : DS) hw2
    have hoo : ({ d with u := d.u ++ ws, ops := d.ops ++ ws.map fun x => (2, x.1) } : DS).ops = d.ops ++ ws.map fun x => (2, x.1) := rfl
    have hk0 := hK ({ d with u := d.u ++ ws, ops := d.ops ++ ws.map fun x => (2, x.1) } : DS) hw2 hdn hl rfl (by simp only [List.length_append]; omega) (by simp only [List.length_append, List.length_map]; omega) (by
      have h1 := Int.emod_nonneg (s + x) (show (k : Int) ≠ 0 by omega)
      have h2 := Int.emod_lt_of_pos (s + x) (show (0 : Int) < k by omega)
      exact ⟨hj3.few, hj3.key, hj3.tag, hj3.pl, ⟨h1, h2⟩, hj3.cnt, hj3.nx, hj3.lim⟩)
    unfold reliquarylaw13_JournalRing.L2
    rw [hx1]
    refine .inr ⟨by omega, _, _, _, _, _, _, hO, _, _, _, _, _, _, _, _, _, _, _, _, _, _, _, _, _, hA, _, _, _, _, _, _, hO2, fun h => h rfl, _, rfl, ?_, ?_, ?_, x + 1, ring_L3 a1 s i x108 k x hk hk1 hn hx hs hi ({ d with u := d.u ++ ws, ops := d.ops ++ ws.map fun x => (2, x.1) } : DS) key Z32 T (nx + x) ws d.ops hoo hwl hwx (by omega) hj3 hTT b K hk0 x (x + 1) 0 (by omega) (by omega)⟩
    · rw [List.length_append, List.length_map, hwl, w64 (by omega) (by omega)]
      exact fun h => h (by omega)
    · rw [wu64 (by omega) (by omega)]; exact fun h => h rfl
    · rw [wu64 (by omega) (by omega)]; exact fun h => h rfl
  | succ m ih =>
    intro f x h3 h4
    obtain ⟨f, rfl⟩ : ∃ q, f = q + 1 := ⟨f - 1, by omega⟩
    have H := ih f (x + 1) (by omega) (by omega)
    rw [zl_succ] at H
    unfold reliquarylaw13_JournalRing.L2
    rw [hx1, wu64 (x := (x : Int)) (by omega) (by omega)]
    refine .inl ⟨by omega, _, rfl, by rw [List.length_append, zl_length]; simp; omega, ?_⟩
    rw [show IntKind.i64.wrap ((x : Int) + 1) = ((x + 1 : Nat) : Int) by rw [w64 (by omega) (by omega)]; omega]
    exact H
theorem ring_L1 (a1 : Int) (l3 : List Int) (h3 : Byt l3) (k : Nat) (hk : IntKind.i64.wrap (IntKind.i64.wrap (Int.tmod a1 9) + 1) = (k : Int)) (hk1 : 1 ≤ k ∧ k ≤ 9) (key : List Int) (b : Bool) :
    ∀ (m f i : Nat) (d : DS) (s nx : Int), i + m = min l3.length 10 → m < f → 0 ≤ s ∧ s < (k : Int) → d.Wf → d.down = false → d.left = -1 → d.u.length ≤ 10 * i ∧ d.ops.length ≤ 10 * i → JOk d.p.length ⟨key, 2, k, s, 0, Z32, nx, 1099511627776⟩ → nx ≤ 1 + 10 * i →
      reliquarylaw13_JournalRing.L1 a1 l3 f d.p d.u d.ops d.left d.down key 2 k s 0 Z32 nx 1099511627776 b s i := by
  intro m
  induction m with
  | zero =>
    intro f i d s nx h1 h2 _ _ _ _ _ _ _
    obtain ⟨f, rfl⟩ : ∃ q, f = q + 1 := ⟨f - 1, by omega⟩
    by_cases c : (i : Int) < (l3.length : Int)
    · exact .inl ⟨c, .inr ⟨by omega, trivial⟩⟩
    · exact .inr ⟨c, trivial⟩
  | succ m ih =>
    intro f i d s nx h1 h2 hs hd hdn hl hu hj hnx
    obtain ⟨f, rfl⟩ : ∃ q, f = q + 1 := ⟨f - 1, by omega⟩
    have hg := h3.gn i
    have e1 : IntKind.i64.wrap (gn l3 i) = gn l3 i := w64 (by omega) (by omega)
    have e2 : Int.tmod (gn l3 i) (k : Int) = gn l3 i % (k : Int) := Int.tmod_eq_emod_of_nonneg hg.1
    have h5 := Int.emod_nonneg (gn l3 i) (show (k : Int) ≠ 0 by omega)
    have h6 := Int.emod_lt_of_pos (gn l3 i) (show (0 : Int) < k by omega)
    obtain ⟨n, hn⟩ : ∃ n : Nat, (n : Int) = gn l3 i % (k : Int) + 1 := ⟨(gn l3 i % (k : Int) + 1).toNat, by omega⟩
    unfold reliquarylaw13_JournalRing.L1
    rw [hk, Int.toNat_natCast, e1, e2]
    refine .inl ⟨by omega, .inl ⟨by omega, ⟨by omega, by omega⟩, by omega, _, rfl, n + 1, ?_⟩⟩
    refine ring_L2 a1 s i (gn l3 i % (k : Int)) k n hk hk1 (by omega) (by omega) hs (by omega) d key nx hd hdn hl (by omega) hj (by omega) b _ (fun d' w1 w2 w3 w4 w5 w6 w7 => ?_) n (n + 1) 0 (by omega) (by omega)
    have H := ih f (i + 1) d' ((s + n) % (k : Int)) (nx + n) (by omega) (by omega) ⟨Int.emod_nonneg _ (by omega), Int.emod_lt_of_pos _ (by omega)⟩ w1 w2 w3 (by omega) w7 (by omega)
    exact H
theorem journalRing_pure (l0 : List Int) (a1 a2 : Int) (l3 : List Int) (hb : Byt l0) (hl : l0.length = 32) (h1 : 0 ≤ a1 ∧ a1 < 256) (h2 : 0 ≤ a2 ∧ a2 < 256) (h3 : Byt l3) : reliquarylaw13_JournalRing.rel l0 a1 a2 l3 := by
  have e1 : Int.tmod a1 9 = a1 % 9 := Int.tmod_eq_emod_of_nonneg h1.1
  obtain ⟨k, hk0⟩ : ∃ k : Nat, (k : Int) = a1 % 9 + 1 := ⟨(a1 % 9 + 1).toNat, by omega⟩
  have hk : IntKind.i64.wrap (IntKind.i64.wrap (Int.tmod a1 9) + 1) = (k : Int) := by
    rw [e1, w64 (x := a1 % 9) (by omega) (by omega), w64 (by omega) (by omega), hk0]
  have hk1 : 1 ≤ k ∧ k ≤ 9 := by omega
  have h5 := Int.emod_nonneg a2 (show (k : Int) ≠ 0 by omega)
  have h6 := Int.emod_lt_of_pos a2 (show (0 : Int) < k by omega)
  have e2 : Int.tmod (IntKind.i64.wrap a2) (k : Int) = a2 % (k : Int) := by rw [w64 (by omega) (by omega), Int.tmod_eq_emod_of_nonneg (by omega)]
  have hl4 : (newD (k + 2)).p.length = k + 2 := newD_len (k + 2)
  have e0 : newB (newD (k + 2)).p.length 2 k (a2 % (k : Int)) 0 1 1099511627776 = false := by
    rw [hl4]; unfold newB; rw [decide_eq_false_iff_not]; omega
  have hN : ∀ z : Int, z = a2 % (k : Int) → journal_New.rel (newD (k + 2)).p (newD (k + 2)).u (newD (k + 2)).left (newD (k + 2)).down (newD (k + 2)).ops l0 2 k z 0 Z32 1 1099511627776 (newD (k + 2)).p (newD (k + 2)).u (newD (k + 2)).left (newD (k + 2)).down (newD (k + 2)).ops (some (l0, 2, (k : Int), a2 % (k : Int), 0, Z32, 1, 1099511627776)) 0 := by
    rintro _ rfl
    have hN := jn_new (newD (k + 2)) (by omega) l0 2 k (a2 % (k : Int)) 0 Z32 1 1099511627776 (by omega) (by omega)
    rwa [e0, if_neg (by simp), if_neg (by simp)] at hN
  have ew : IntKind.u64.wrap (a2 % (k : Int)) = a2 % (k : Int) := wu64 (by omega) (by omega)
  have hD : disk_New.rel (IntKind.i64.wrap ((k : Int) + 2)) (some ((newD (k + 2)).p, (newD (k + 2)).u, (newD (k + 2)).left, (newD (k + 2)).down, (newD (k + 2)).ops)) 0 := by
    rw [w64 (by omega) (by omega)]
    exact dk_new (k + 2) (by omega) (by omega)
  unfold reliquarylaw13_JournalRing.rel
  rw [hk, e2]
  refine ⟨awake13, _, rfl, _, _, _, _, _, _, hD, by omega, _, rfl, _, _, _, _, _, _, _, _, _, _, _, _, _, _, hN _ ew, min l3.length 10 + 1, ?_⟩
  exact ring_L1 a1 l3 h3 k hk hk1 l0 false (min l3.length 10) _ 0 (newD (k + 2)) (a2 % (k : Int)) 1 (by omega) (by omega) ⟨h5, h6⟩ (newD_wf _ (by omega)) rfl rfl ⟨by simp [newD], by simp [newD]⟩
      (by rw [hl4]; exact ⟨by omega, ⟨hb, hl⟩, ⟨rep_byt 32, List.length_replicate ..⟩, ⟨by show (0 : Int) ≤ 2; omega, by show (1 : Int) ≤ k; omega, by show (2 : Int) + k ≤ ((k + 2 : Nat) : Int); omega⟩, ⟨h5, h6⟩, ⟨by show (0 : Int) ≤ 0; omega, by show (0 : Int) ≤ k; omega⟩, ⟨by show (1 : Int) ≤ 1; omega, by show (1 : Int) < 18446744073709551616; omega⟩, ⟨by show (0 : Int) ≤ 1099511627776; omega, by show (1099511627776 : Int) ≤ 9223372036854775807; omega⟩⟩) (by omega)
end Go.Proofs.YtmhcjafkdmcgoaaDoor
