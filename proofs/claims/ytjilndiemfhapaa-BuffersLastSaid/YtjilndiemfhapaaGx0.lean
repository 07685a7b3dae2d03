/- Closed facts of the program that the walks name: types of one cell, sizes, elements, entries of functions. -/
import Derived.Test.YtjilndiemfhapaaKrO
import Derived.Test.YtjilndiemfhapaaProg
import Derived.KernelRfl
namespace Go.Proofs.Ytjilndiemfhapaa
open Go Go.Kr Go.RowKit
abbrev R60 : Type := Int × (List Int) × Int
def f60 (w : World) (x : R60) : List (Lf w) := [.int .u64 x.1, .row .u8 x.2.1, .int .i64 x.2.2]
theorem fz60 (w : World) : SizedF (f60 w) 3 := fun _ => rfl
theorem inv60 {w : World} {T : Pool} {ms : List Value} {x : R60} (h : HLs T ms (f60 w x)) : ∃ A1 n1 c1, ms = ([.int .u64 x.1] : List Value) ++ (([.slice A1 n1 c1] : List Value) ++ ([.int .i64 x.2.2] : List Value)) ∧ HB w T A1 n1 c1 (iv .u8 x.2.1) x.2.1.length := by
  obtain ⟨v0, vs0, rfl, h0, h⟩ := h.inv
  obtain ⟨v1, vs1, rfl, h1, h⟩ := h.inv
  obtain ⟨v2, vs2, rfl, h2, h⟩ := h.inv
  obtain rfl := h.inv0
  obtain rfl := h0
  obtain ⟨A1, n1, c1, rfl, k1⟩ := h1
  obtain rfl := h2
  exact ⟨A1, n1, c1, rfl, k1⟩
theorem plc57 : placesB Try.prog 57 [(0, 1), (1, 1)] = true := by kernel_rfl
theorem zero57 : ZeroT Try.prog 57 (([.int .i64 0] : List Value) ++ ([.slice none 0 0] : List Value)) := ZeroT.of (by kernel_rfl)
theorem ent10 : Ent Try.prog 10 := Ent.of Try.func10 (by kernel_rfl) (by kernel_rfl)
theorem elem5 : ElemT Try.prog 5 (.int .u8 0) 1 := ElemT.of (by kernel_rfl) rfl (by decide)
theorem fld57_1 : fieldB Try.prog 57 1 55 1 1 = true := by kernel_rfl
theorem nagg55 : OneCell Try.prog 55 := OneCell.of Try.underlying55 rfl
theorem cells60 : Try.prog.cellsOf 60 = 3 := by kernel_rfl
theorem row60 : RowT Try.prog 60 3 := RowT.of Try.underlying60 rfl (by kernel_rfl)
theorem fld60_0 : fieldB Try.prog 60 0 29 0 1 = true := by kernel_rfl
theorem nagg29 : OneCell Try.prog 29 := OneCell.of Try.underlying29 rfl
theorem ent31 : Ent Try.prog 31 := Ent.of Try.func31 (by kernel_rfl) (by kernel_rfl)
theorem ent30 : Ent Try.prog 30 := Ent.of Try.func30 (by kernel_rfl) (by kernel_rfl)
theorem ent22 : Ent Try.prog 22 := Ent.of Try.func22 (by kernel_rfl) (by kernel_rfl)
theorem fld57_0 : fieldB Try.prog 57 0 3 0 1 = true := by kernel_rfl
theorem nagg3 : OneCell Try.prog 3 := OneCell.of Try.underlying3 rfl
theorem zero3 : ZeroT Try.prog 3 ([.int .i64 0]) := ZeroT.of (by kernel_rfl)
theorem cells3 : Try.prog.cellsOf 3 = 1 := by kernel_rfl
theorem ent33 : Ent Try.prog 33 := Ent.of Try.func33 (by kernel_rfl) (by kernel_rfl)
theorem ent32 : Ent Try.prog 32 := Ent.of Try.func32 (by kernel_rfl) (by kernel_rfl)
theorem zero60 : ZeroT Try.prog 60 (([.int .u64 0] : List Value) ++ (([.slice none 0 0] : List Value) ++ ([.int .i64 0] : List Value))) := ZeroT.of (by kernel_rfl)
theorem fld60_2 : fieldB Try.prog 60 2 3 2 1 = true := by kernel_rfl
theorem elemS60 : ElemS Try.prog 60 (.agg #[.int .u64 0, .slice none 0 0, .int .i64 0]) 3 40 := ElemS.of (by kernel_rfl) rfl (by decide)
theorem ent29 : Ent Try.prog 29 := Ent.of Try.func29 (by kernel_rfl) (by kernel_rfl)
theorem cells55 : Try.prog.cellsOf 55 = 1 := by kernel_rfl
theorem ent23 : Ent Try.prog 23 := Ent.of Try.func23 (by kernel_rfl) (by kernel_rfl)
theorem plc60 : placesB Try.prog 60 [(0, 1), (1, 1), (2, 1)] = true := by kernel_rfl
theorem slr60_1 : ∃ ii z, Try.prog.info? 60 = some ii ∧ ii.zero = some z ∧ ii.size = 3 ∧ (Array.range (1 * 3)).map (fun i => z.cells[i % z.cells.size]!) = (([.int .u64 0] : List Value) ++ (([.slice none 0 0] : List Value) ++ ([.int .i64 0] : List Value))).toArray := ⟨_, _, rfl, rfl, rfl, by kernel_rfl⟩
theorem ent24 : Ent Try.prog 24 := Ent.of Try.func24 (by kernel_rfl) (by kernel_rfl)
theorem fld60_1 : fieldB Try.prog 60 1 22 1 1 = true := by kernel_rfl
theorem cells22 : Try.prog.cellsOf 22 = 1 := by kernel_rfl
theorem siz60 : (Try.prog.info? 60).map (·.size) = some 3 := by kernel_rfl
theorem ent25 : Ent Try.prog 25 := Ent.of Try.func25 (by kernel_rfl) (by kernel_rfl)
theorem ent11 : Ent Try.prog 11 := Ent.of Try.func11 (by kernel_rfl) (by kernel_rfl)
theorem nagg22 : OneCell Try.prog 22 := OneCell.of Try.underlying22 rfl
theorem ent12 : Ent Try.prog 12 := Ent.of Try.func12 (by kernel_rfl) (by kernel_rfl)
theorem ent16 : Ent Try.prog 16 := Ent.of Try.func16 (by kernel_rfl) (by kernel_rfl)
theorem ent18 : Ent Try.prog 18 := Ent.of Try.func18 (by kernel_rfl) (by kernel_rfl)
theorem elem29 : ElemT Try.prog 29 (.int .u64 0) 8 := ElemT.of (by kernel_rfl) rfl (by decide)
theorem ent13 : Ent Try.prog 13 := Ent.of Try.func13 (by kernel_rfl) (by kernel_rfl)
theorem cells5 : Try.prog.cellsOf 5 = 1 := by kernel_rfl
theorem nagg5 : OneCell Try.prog 5 := OneCell.of Try.underlying5 rfl
theorem ent8 : Ent Try.prog 8 := Ent.of Try.func8 (by kernel_rfl) (by kernel_rfl)
theorem ent9 : Ent Try.prog 9 := Ent.of Try.func9 (by kernel_rfl) (by kernel_rfl)
theorem cells29 : Try.prog.cellsOf 29 = 1 := by kernel_rfl
theorem ent21 : Ent Try.prog 21 := Ent.of Try.func21 (by kernel_rfl) (by kernel_rfl)
theorem ent19 : Ent Try.prog 19 := Ent.of Try.func19 (by kernel_rfl) (by kernel_rfl)
theorem wide : Try.prog.follows .mixedOrders = true := by kernel_rfl
end Go.Proofs.Ytjilndiemfhapaa
