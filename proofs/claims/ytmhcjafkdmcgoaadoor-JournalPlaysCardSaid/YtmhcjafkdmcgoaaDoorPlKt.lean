/- The table of the digest's rounds, as the row lays it: its cells. -/
import Derived.Test.YtmhcjafkdmcgoaaDoorRows
import Derived.Test.YtmhcjafkdmcgoaaDoorGx0
import Derived.LaidMore
import Derived.OpenShut
import Derived.Stop.Joined
namespace Go.Proofs.YtmhcjafkdmcgoaaDoor
open Go Go.Kr Go.RowKit
theorem gk : Tryd.prog.globalNamed "reliquary/digest.k" = some 0 := by kernel_rfl
theorem tk : (Tryd.prog.globals[0]?).map (·.type) = some 154 := by kernel_rfl
theorem c42 : Tryd.prog.cellsOf 24 = 1 := by kernel_rfl
theorem of_laid {W : World} (h : laidMetH Tryd.prog [("reliquary/digest.k", Rows.laid_reliquary_digest_k)] W) : Src W (some ⟨0, 0, none⟩) (iv .u32 tab0) := by
 rw [MakeChecks.laidMetH_plain _ _ _ (by kernel_rfl)] at h
 obtain ⟨ps, ⟨g0, t0, cs0, f0, p0, q0, hg0, ht0, hv0, hd0, _, _⟩, _, _⟩ := h
 obtain rfl := Option.some.inj (gk.symm.trans hg0)
 obtain rfl := Option.some.inj (tk.symm.trans ht0)
 obtain ⟨xs, m1, rfl, hx1, hlen, hn3, hel⟩ := DataW.trod_array Tryd.underlying154 hd0
 have hx : Rows.laid_reliquary_digest_k = DataW.agg (xs.map (·.1)) := (Prod.mk.inj hx1).1
 have hmap : xs.map (·.1) = tab0.map fun n => DataW.lit (.int .u32 n) := by
  have : (DataW.agg (xs.map (·.1)) : DataW Unit) = DataW.agg (tab0.map fun n => DataW.lit (.int .u32 n)) := by rw [← hx]; rfl
  exact DataW.agg.inj this
 intro j v hv
 have hj : j < 64 := by
  have := (List.getElem?_eq_some_iff.1 hv).1
  rw [iv_length, tab0_len] at this
  exact this
 refine ⟨_, rfl, ?_⟩
 rw [add_blk]
 have h0 := hel j hj
 rw [c42, Nat.mul_one, List.getElem?_eq_getElem (by omega)] at h0
 obtain ⟨k, e1, e2, _⟩ := DataW.trod_int Tryd.underlying24 h0
 have hk : (xs.map (·.1))[j]? = some (DataW.lit (.int .u32 k)) := by rw [List.getElem?_map, List.getElem?_eq_getElem (by omega), e2]; rfl
 rw [hmap, List.getElem?_map, List.getElem?_eq_getElem (by rw [tab0_len]; exact hj)] at hk
 simp only [Option.map_some, Option.some.injEq, DataW.lit.injEq, Lit.int.injEq, true_and] at hk
 have hv2 : v = .int .u32 k := by
  unfold iv at hv
  rw [List.getElem?_map, List.getElem?_eq_getElem (by rw [tab0_len]; exact hj)] at hv
  simp only [Option.map_some, Option.some.injEq] at hv
  rw [← hv, hk]
 rw [World.var?_cell hg0 hv0 j, hv2]
 have := congrArg (·[0]?) e1
 simp only [List.getElem?_take, List.getElem?_drop] at this
 simpa using this
end Go.Proofs.YtmhcjafkdmcgoaaDoor
