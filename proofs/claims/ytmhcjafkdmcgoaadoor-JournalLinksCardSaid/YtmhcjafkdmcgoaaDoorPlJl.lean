/- Journal: the laws JournalLinks and JournalRing, plainly. -/
import Derived.Test.YtmhcjafkdmcgoaaDoorPlJo
namespace Go.Proofs.YtmhcjafkdmcgoaaDoor
open Go Go.Kr Go.RowKit
set_option linter.unusedVariables false
set_option linter.unusedSimpArgs false

theorem rlink_rel (tag : List Int) (p : Int) (slot : List Int) (hb : Byt tag) (hs : Byt slot) (hp : 0 ≤ p ∧ p < 4294967296) (hl : tag.length ≤ 100) (hsl : slot.length ≤ 100000) : reliquaryref13_Link.rel tag p (strOfNums slot) (linkf tag p slot) := by
  have hput := rput_rel p ⟨hp.1, by omega⟩ 4 (by omega)
  have e : [255] ++ tag ++ putf p 4 ++ slot = [255] ++ (tag ++ (putf p 4 ++ slot)) := by simp
  have hof := rof_rel ([255] ++ (tag ++ (putf p 4 ++ slot))) (link_byt p hb hs) (by rw [link_len]; omega)
  refine ⟨_, rfl, by simp; omega, putf p 4, ?_, _, rfl, by simp [putf_length]; omega, _, rfl, ?_⟩
  · rw [wu64 hp.1 (by omega)]; exact hput
  · rw [bl_strOfNums hs, e]
    exact ⟨by rw [link_len]; omega, _, hof, rfl⟩
theorem journalLinks_pure (l0 : List Int) (a1 : Int) (l2 : List Int) (hb : Byt l0) (hl : l0.length = 32) (ha : 0 ≤ a1 ∧ a1 < 4294967296) (h2 : Byt l2) : reliquarylaw13_JournalLinks.rel l0 a1 l2 := by
  refine ⟨awake13, ?_⟩
  by_cases h : (l2.length : Int) > 1000
  · exact .inl ⟨h, trivial⟩
  · exact .inr ⟨h, _, link_rel l0 a1 l2 hb h2 ha (by omega) (by omega), linkf_length _ _ _, _, rlink_rel l0 a1 l2 hb h2 ha (by omega) (by omega), linkf_length _ _ _, rfl⟩

end Go.Proofs.YtmhcjafkdmcgoaaDoor
