/- Closed facts of the program that the walks name: types of one cell, sizes, elements, entries of functions. -/
import Derived.Test.YtjlifbnkdfofhaaKrR
import Derived.Test.YtjlifbnkdfofhaaProg
import Derived.KernelRfl
namespace Go.Proofs.Ytjlifbnkdfofhaa
open Go Go.Kr Go.RowKit
abbrev R22 : Type := (List Int)
def f22 (w : World) (x : R22) : List (Lf w) := [.row .u8 x]
theorem fz22 (w : World) : SizedF (f22 w) 1 := fun _ => rfl
theorem inv22 {w : World} {T : Pool} {ms : List Value} {x : R22} (h : HLs T ms (f22 w x)) : ∃ A0 n0 c0, ms = ([.slice A0 n0 c0] : List Value) ∧ HB w T A0 n0 c0 (iv .u8 x) x.length := by
  obtain ⟨v0, vs0, rfl, h0, h⟩ := h.inv
  obtain rfl := h.inv0
  obtain ⟨A0, n0, c0, rfl, k0⟩ := h0
  exact ⟨A0, n0, c0, rfl, k0⟩
abbrev R69 : Type := Int × (List Int)
def f69 (w : World) (x : R69) : List (Lf w) := [.int .i64 x.1, .row .u8 x.2]
theorem fz69 (w : World) : SizedF (f69 w) 2 := fun _ => rfl
theorem inv69 {w : World} {T : Pool} {ms : List Value} {x : R69} (h : HLs T ms (f69 w x)) : ∃ A1 n1 c1, ms = ([.int .i64 x.1] : List Value) ++ ([.slice A1 n1 c1] : List Value) ∧ HB w T A1 n1 c1 (iv .u8 x.2) x.2.length := by
  obtain ⟨v0, vs0, rfl, h0, h⟩ := h.inv
  obtain ⟨v1, vs1, rfl, h1, h⟩ := h.inv
  obtain rfl := h.inv0
  obtain rfl := h0
  obtain ⟨A1, n1, c1, rfl, k1⟩ := h1
  exact ⟨A1, n1, c1, rfl, k1⟩
abbrev R71 : Type := Int × Int
def f71 (w : World) (x : R71) : List (Lf w) := [.int .i64 x.1, .int .i64 x.2]
theorem fz71 (w : World) : SizedF (f71 w) 2 := fun _ => rfl
theorem inv71 {w : World} {T : Pool} {ms : List Value} {x : R71} (h : HLs T ms (f71 w x)) : ms = ([.int .i64 x.1] : List Value) ++ ([.int .i64 x.2] : List Value) := by
  obtain ⟨v0, vs0, rfl, h0, h⟩ := h.inv
  obtain ⟨v1, vs1, rfl, h1, h⟩ := h.inv
  obtain rfl := h.inv0
  obtain rfl := h0
  obtain rfl := h1
  exact rfl
theorem plc66 : placesB Try.prog 66 [(0, 1), (1, 1), (2, 1), (3, 1), (4, 1)] = true := by kernel_rfl
theorem zero66 : ZeroT Try.prog 66 (([.slice none 0 0] : List Value) ++ (([.slice none 0 0] : List Value) ++ (([.int .i64 0] : List Value) ++ (([.bool false] : List Value) ++ ([.slice none 0 0] : List Value))))) := ZeroT.of (by kernel_rfl)
theorem fld66_0 : fieldB Try.prog 66 0 41 0 1 = true := by kernel_rfl
theorem nagg41 : OneCell Try.prog 41 := OneCell.of Try.underlying41 rfl
theorem elem5 : ElemT Try.prog 5 (.int .u8 0) 1 := ElemT.of (by kernel_rfl) rfl (by decide)
theorem elem22 : ElemT Try.prog 22 (.slice none 0 0) 24 := ElemT.of (by kernel_rfl) rfl (by decide)
theorem elemS22 : ElemS Try.prog 22 (.slice none 0 0) 1 24 := ElemS.of (by kernel_rfl) rfl (by decide)
theorem cells41 : Try.prog.cellsOf 41 = 1 := by kernel_rfl
theorem ent10 : Ent Try.prog 10 := Ent.of Try.func10 (by kernel_rfl) (by kernel_rfl)
theorem cells5 : Try.prog.cellsOf 5 = 1 := by kernel_rfl
theorem fld66_3 : fieldB Try.prog 66 3 4 3 1 = true := by kernel_rfl
theorem nagg4 : OneCell Try.prog 4 := OneCell.of Try.underlying4 rfl
theorem ent28 : Ent Try.prog 28 := Ent.of Try.func28 (by kernel_rfl) (by kernel_rfl)
theorem fld66_2 : fieldB Try.prog 66 2 3 2 1 = true := by kernel_rfl
theorem nagg3 : OneCell Try.prog 3 := OneCell.of Try.underlying3 rfl
theorem cells4 : Try.prog.cellsOf 4 = 1 := by kernel_rfl
theorem cells3 : Try.prog.cellsOf 3 = 1 := by kernel_rfl
theorem fld66_1 : fieldB Try.prog 66 1 64 1 1 = true := by kernel_rfl
theorem nagg64 : OneCell Try.prog 64 := OneCell.of Try.underlying64 rfl
theorem ent29 : Ent Try.prog 29 := Ent.of Try.func29 (by kernel_rfl) (by kernel_rfl)
theorem plc69 : placesB Try.prog 69 [(0, 1), (1, 1)] = true := by kernel_rfl
theorem zero69 : ZeroT Try.prog 69 (([.int .i64 0] : List Value) ++ ([.slice none 0 0] : List Value)) := ZeroT.of (by kernel_rfl)
theorem slr69_1 : ∃ ii z, Try.prog.info? 69 = some ii ∧ ii.zero = some z ∧ ii.size = 2 ∧ (Array.range (1 * 2)).map (fun i => z.cells[i % z.cells.size]!) = (([.int .i64 0] : List Value) ++ ([.slice none 0 0] : List Value)).toArray := ⟨_, _, rfl, rfl, rfl, by kernel_rfl⟩
theorem elemS69 : ElemS Try.prog 69 (.agg #[.int .i64 0, .slice none 0 0]) 2 32 := ElemS.of (by kernel_rfl) rfl (by decide)
theorem cells64 : Try.prog.cellsOf 64 = 1 := by kernel_rfl
theorem fld66_4 : fieldB Try.prog 66 4 61 4 1 = true := by kernel_rfl
theorem nagg61 : OneCell Try.prog 61 := OneCell.of Try.underlying61 rfl
theorem plc71 : placesB Try.prog 71 [(0, 1), (1, 1)] = true := by kernel_rfl
theorem zero71 : ZeroT Try.prog 71 (([.int .i64 0] : List Value) ++ ([.int .i64 0] : List Value)) := ZeroT.of (by kernel_rfl)
theorem slr71_1 : ∃ ii z, Try.prog.info? 71 = some ii ∧ ii.zero = some z ∧ ii.size = 2 ∧ (Array.range (1 * 2)).map (fun i => z.cells[i % z.cells.size]!) = (([.int .i64 0] : List Value) ++ ([.int .i64 0] : List Value)).toArray := ⟨_, _, rfl, rfl, rfl, by kernel_rfl⟩
theorem elemS71 : ElemS Try.prog 71 (.agg #[.int .i64 0, .int .i64 0]) 2 16 := ElemS.of (by kernel_rfl) rfl (by decide)
theorem cells61 : Try.prog.cellsOf 61 = 1 := by kernel_rfl
theorem ent11 : Ent Try.prog 11 := Ent.of Try.func11 (by kernel_rfl) (by kernel_rfl)
theorem zero22 : ZeroT Try.prog 22 ([.slice none 0 0]) := ZeroT.of (by kernel_rfl)
theorem zero26 : ZeroT Try.prog 26 ([.int .i64 0]) := ZeroT.of (by kernel_rfl)
theorem cells22 : Try.prog.cellsOf 22 = 1 := by kernel_rfl
theorem cells26 : Try.prog.cellsOf 26 = 1 := by kernel_rfl
theorem nagg22 : OneCell Try.prog 22 := OneCell.of Try.underlying22 rfl
theorem nagg26 : OneCell Try.prog 26 := OneCell.of Try.underlying26 rfl
theorem cells69 : Try.prog.cellsOf 69 = 2 := by kernel_rfl
theorem row69 : RowT Try.prog 69 2 := RowT.of Try.underlying69 rfl (by kernel_rfl)
theorem ent43 : Ent Try.prog 43 := Ent.of Try.func43 (by kernel_rfl) (by kernel_rfl)
theorem ent30 : Ent Try.prog 30 := Ent.of Try.func30 (by kernel_rfl) (by kernel_rfl)
theorem fld69_0 : fieldB Try.prog 69 0 3 0 1 = true := by kernel_rfl
theorem fld69_1 : fieldB Try.prog 69 1 22 1 1 = true := by kernel_rfl
theorem ent15 : Ent Try.prog 15 := Ent.of Try.func15 (by kernel_rfl) (by kernel_rfl)
theorem ent13 : Ent Try.prog 13 := Ent.of Try.func13 (by kernel_rfl) (by kernel_rfl)
theorem ent14 : Ent Try.prog 14 := Ent.of Try.func14 (by kernel_rfl) (by kernel_rfl)
theorem nagg5 : OneCell Try.prog 5 := OneCell.of Try.underlying5 rfl
theorem ent26 : Ent Try.prog 26 := Ent.of Try.func26 (by kernel_rfl) (by kernel_rfl)
theorem ent42 : Ent Try.prog 42 := Ent.of Try.func42 (by kernel_rfl) (by kernel_rfl)
theorem ent27 : Ent Try.prog 27 := Ent.of Try.func27 (by kernel_rfl) (by kernel_rfl)
theorem ent9 : Ent Try.prog 9 := Ent.of Try.func9 (by kernel_rfl) (by kernel_rfl)
theorem plc33 : placesB Try.prog 33 [(0, 1), (1, 1), (2, 1), (3, 1), (4, 1)] = true := by kernel_rfl
theorem zero33 : ZeroT Try.prog 33 (([.int .i64 0] : List Value) ++ (([.int .i64 0] : List Value) ++ (([.slice none 0 0] : List Value) ++ (([.slice none 0 0] : List Value) ++ ([.bool false] : List Value))))) := ZeroT.of (by kernel_rfl)
theorem fld33_4 : fieldB Try.prog 33 4 4 4 1 = true := by kernel_rfl
theorem fld33_2 : fieldB Try.prog 33 2 22 2 1 = true := by kernel_rfl
theorem ent12 : Ent Try.prog 12 := Ent.of Try.func12 (by kernel_rfl) (by kernel_rfl)
theorem ent16 : Ent Try.prog 16 := Ent.of Try.func16 (by kernel_rfl) (by kernel_rfl)
theorem ent17 : Ent Try.prog 17 := Ent.of Try.func17 (by kernel_rfl) (by kernel_rfl)
theorem wide : Try.prog.follows .mixedOrders = true := by kernel_rfl
end Go.Proofs.Ytjlifbnkdfofhaa
