/- The table of the cipher's quarters, as the row lays it: its cells. -/
import Derived.Test.YtmhcjafkdmcgoaaDoorRows
import Derived.Test.YtmhcjafkdmcgoaaDoorGx0
import Derived.LaidMore
import Derived.OpenShut
import Derived.Stop.Joined
namespace Go.Proofs.YtmhcjafkdmcgoaaDoor
open Go Go.Kr Go.RowKit
theorem gq : Tryd.prog.globalNamed "reliquary/cipher.quarters" = some 1 := by kernel_rfl
theorem tq : (Tryd.prog.globals[1]?).map (·.type) = some 170 := by kernel_rfl
theorem cq : Tryd.prog.cellsOf 169 = 4 := by kernel_rfl
theorem cq1 : Tryd.prog.cellsOf 3 = 1 := by kernel_rfl
def qrow (i : Nat) : DataW Unit := .agg ((List.range 4).map fun j => .lit (.int .i64 (gn tab1 (i * 4 + j))))
set_option maxRecDepth 100000 in
theorem of_laid_q {W : World} (h : laidMetH Tryd.prog [("reliquary/cipher.quarters", Rows.laid_reliquary_cipher_quarters)] W) : Src W (some ⟨1, 0, none⟩) (iv .i64 tab1) := by
 rw [MakeChecks.laidMetH_plain _ _ _ (by kernel_rfl)] at h
 obtain ⟨ps, ⟨g0, t0, cs0, f0, p0, q0, hg0, ht0, hv0, hd0, _, _⟩, _, _⟩ := h
 obtain rfl := Option.some.inj (gq.symm.trans hg0)
 obtain rfl := Option.some.inj (tq.symm.trans ht0)
 obtain ⟨xs, m1, rfl, hx1, hlen, hn3, hel⟩ := DataW.trod_array Tryd.underlying170 hd0
 have hx : Rows.laid_reliquary_cipher_quarters = DataW.agg (xs.map (·.1)) := (Prod.mk.inj hx1).1
 have hmap : xs.map (·.1) = (List.range 8).map qrow := by
  have : (DataW.agg (xs.map (·.1)) : DataW Unit) = DataW.agg ((List.range 8).map qrow) := by rw [← hx]; rfl
  exact DataW.agg.inj this
 intro j v hv
 have hj : j < 32 := by
  have := (List.getElem?_eq_some_iff.1 hv).1
  rw [iv_length, tab1_len] at this
  exact this
 refine ⟨_, rfl, ?_⟩
 rw [add_blk]
 have h0 := hel (j / 4) (by omega)
 rw [cq, List.getElem?_eq_getElem (by omega)] at h0
 have hr : xs[j / 4].1 = qrow (j / 4) := by
  have : (xs.map (·.1))[j / 4]? = ((List.range 8).map qrow)[j / 4]? := by rw [hmap]
  rw [List.getElem?_map, List.getElem?_map, List.getElem?_eq_getElem (by omega), List.getElem?_range (by omega)] at this
  simpa using this
 obtain ⟨ys, m2, rfl, hy1, hylen, hyn, hye⟩ := DataW.trod_array Tryd.underlying169 h0
 have hy : xs[j / 4].1 = DataW.agg (ys.map (·.1)) := by rw [hy1]
 have hyq : ys.map (·.1) = (List.range 4).map fun t => (DataW.lit (.int .i64 (gn tab1 (j / 4 * 4 + t))) : DataW Unit) := by
  rw [hr] at hy
  exact (DataW.agg.inj hy).symm
 have h2 := hye (j % 4) (by omega)
 rw [cq1, Nat.mul_one, List.getElem?_eq_getElem (by omega)] at h2
 obtain ⟨k, e1, e2, _⟩ := DataW.trod_int Tryd.underlying3 h2
 have hk : ys[j % 4].1 = DataW.lit (.int .i64 (gn tab1 (j / 4 * 4 + j % 4))) := by
  have : (ys.map (·.1))[j % 4]? = ((List.range 4).map fun t => (DataW.lit (.int .i64 (gn tab1 (j / 4 * 4 + t))) : DataW Unit))[j % 4]? := by rw [hyq]
  rw [List.getElem?_map, List.getElem?_map, List.getElem?_eq_getElem (by omega), List.getElem?_range (by omega)] at this
  simpa using this
 rw [e2] at hk
 simp only [DataW.lit.injEq, Lit.int.injEq, true_and] at hk
 have hv2 : v = .int .i64 k := by
  have := iv_get (k := .i64) (xs := tab1) (j := j) (by rw [tab1_len]; exact hj)
  rw [this] at hv
  rw [← Option.some.inj hv, hk, show j / 4 * 4 + j % 4 = j by omega]
 rw [World.var?_cell hg0 hv0 j, hv2]
 have := congrArg (·[0]?) e1
 simp only [List.getElem?_take, List.getElem?_drop] at this
 simp at this
 rw [← this.2]
 congr 1
 omega
end Go.Proofs.YtmhcjafkdmcgoaaDoor
