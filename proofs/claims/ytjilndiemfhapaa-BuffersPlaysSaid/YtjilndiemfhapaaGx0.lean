/- Closed facts of the program that the walks name: types of one cell, sizes, elements, entries of functions. -/
import Derived.Test.YtjilndiemfhapaaKrO
import Derived.Test.YtjilndiemfhapaaProg
import Derived.KernelRfl
namespace Go.Proofs.Ytjilndiemfhapaa
open Go Go.Kr Go.RowKit
abbrev R41 : Type := Int × Int × (List Int) × Bool
def f41 (w : World) (x : R41) : List (Lf w) := [.int .i64 x.1, .int .u64 x.2.1, .row .u8 x.2.2.1, .bool x.2.2.2]
theorem fz41 (w : World) : SizedF (f41 w) 4 := fun _ => rfl
theorem inv41 {w : World} {T : Pool} {ms : List Value} {x : R41} (h : HLs T ms (f41 w x)) : ∃ A2 n2 c2, ms = ([.int .i64 x.1] : List Value) ++ (([.int .u64 x.2.1] : List Value) ++ (([.slice A2 n2 c2] : List Value) ++ ([.bool x.2.2.2] : List Value))) ∧ HB w T A2 n2 c2 (iv .u8 x.2.2.1) x.2.2.1.length := by
  obtain ⟨v0, vs0, rfl, h0, h⟩ := h.inv
  obtain ⟨v1, vs1, rfl, h1, h⟩ := h.inv
  obtain ⟨v2, vs2, rfl, h2, h⟩ := h.inv
  obtain ⟨v3, vs3, rfl, h3, h⟩ := h.inv
  obtain rfl := h.inv0
  obtain rfl := h0
  obtain rfl := h1
  obtain ⟨A2, n2, c2, rfl, k2⟩ := h2
  obtain rfl := h3
  exact ⟨A2, n2, c2, rfl, k2⟩
abbrev R60 : Type := Int × (List Int) × Int
def f60 (w : World) (x : R60) : List (Lf w) := [.int .u64 x.1, .row .u8 x.2.1, .int .i64 x.2.2]
theorem fz60 (w : World) : SizedF (f60 w) 3 := fun _ => rfl
theorem inv60 {w : World} {T : Pool} {ms : List Value} {x : R60} (h : HLs T ms (f60 w x)) : ∃ A1 n1 c1, ms = ([.int .u64 x.1] : List Value) ++ (([.slice A1 n1 c1] : List Value) ++ ([.int .i64 x.2.2] : List Value)) ∧ HB w T A1 n1 c1 (iv .u8 x.2.1) x.2.1.length := by
  obtain ⟨v0, vs0, rfl, h0, h⟩ := h.inv
  obtain ⟨v1, vs1, rfl, h1, h⟩ := h.inv
  obtain ⟨v2, vs2, rfl, h2, h⟩ := h.inv
  obtain rfl := h.inv0
  obtain rfl := h0
  obtain ⟨A1, n1, c1, rfl, k1⟩ := h1
  obtain rfl := h2
  exact ⟨A1, n1, c1, rfl, k1⟩
abbrev R51 : Type := Int × ByteArray × Int
def f51 (w : World) (x : R51) : List (Lf w) := [.int .u64 x.1, .str x.2.1, .int .i64 x.2.2]
theorem fz51 (w : World) : SizedF (f51 w) 3 := fun _ => rfl
theorem inv51 {w : World} {T : Pool} {ms : List Value} {x : R51} (h : HLs T ms (f51 w x)) : ms = ([.int .u64 x.1] : List Value) ++ (([.string x.2.1] : List Value) ++ ([.int .i64 x.2.2] : List Value)) := by
  obtain ⟨v0, vs0, rfl, h0, h⟩ := h.inv
  obtain ⟨v1, vs1, rfl, h1, h⟩ := h.inv
  obtain ⟨v2, vs2, rfl, h2, h⟩ := h.inv
  obtain rfl := h.inv0
  obtain rfl := h0
  obtain rfl := h1
  obtain rfl := h2
  exact rfl
theorem plc57 : placesB Try.prog 57 [(0, 1), (1, 1)] = true := by kernel_rfl
theorem zero57 : ZeroT Try.prog 57 (([.int .i64 0] : List Value) ++ ([.slice none 0 0] : List Value)) := ZeroT.of (by kernel_rfl)
theorem ent10 : Ent Try.prog 10 := Ent.of Try.func10 (by kernel_rfl) (by kernel_rfl)
theorem elem5 : ElemT Try.prog 5 (.int .u8 0) 1 := ElemT.of (by kernel_rfl) rfl (by decide)
theorem fld57_1 : fieldB Try.prog 57 1 55 1 1 = true := by kernel_rfl
theorem nagg55 : OneCell Try.prog 55 := OneCell.of Try.underlying55 rfl
theorem cells60 : Try.prog.cellsOf 60 = 3 := by kernel_rfl
theorem row60 : RowT Try.prog 60 3 := RowT.of Try.underlying60 rfl (by kernel_rfl)
theorem fld60_0 : fieldB Try.prog 60 0 29 0 1 = true := by kernel_rfl
theorem nagg29 : OneCell Try.prog 29 := OneCell.of Try.underlying29 rfl
theorem ent31 : Ent Try.prog 31 := Ent.of Try.func31 (by kernel_rfl) (by kernel_rfl)
theorem ent30 : Ent Try.prog 30 := Ent.of Try.func30 (by kernel_rfl) (by kernel_rfl)
theorem ent22 : Ent Try.prog 22 := Ent.of Try.func22 (by kernel_rfl) (by kernel_rfl)
theorem fld57_0 : fieldB Try.prog 57 0 3 0 1 = true := by kernel_rfl
theorem nagg3 : OneCell Try.prog 3 := OneCell.of Try.underlying3 rfl
theorem zero3 : ZeroT Try.prog 3 ([.int .i64 0]) := ZeroT.of (by kernel_rfl)
theorem cells3 : Try.prog.cellsOf 3 = 1 := by kernel_rfl
theorem ent33 : Ent Try.prog 33 := Ent.of Try.func33 (by kernel_rfl) (by kernel_rfl)
theorem ent32 : Ent Try.prog 32 := Ent.of Try.func32 (by kernel_rfl) (by kernel_rfl)
theorem zero60 : ZeroT Try.prog 60 (([.int .u64 0] : List Value) ++ (([.slice none 0 0] : List Value) ++ ([.int .i64 0] : List Value))) := ZeroT.of (by kernel_rfl)
theorem fld60_2 : fieldB Try.prog 60 2 3 2 1 = true := by kernel_rfl
theorem elemS60 : ElemS Try.prog 60 (.agg #[.int .u64 0, .slice none 0 0, .int .i64 0]) 3 40 := ElemS.of (by kernel_rfl) rfl (by decide)
theorem ent29 : Ent Try.prog 29 := Ent.of Try.func29 (by kernel_rfl) (by kernel_rfl)
theorem cells55 : Try.prog.cellsOf 55 = 1 := by kernel_rfl
theorem ent23 : Ent Try.prog 23 := Ent.of Try.func23 (by kernel_rfl) (by kernel_rfl)
theorem plc60 : placesB Try.prog 60 [(0, 1), (1, 1), (2, 1)] = true := by kernel_rfl
theorem slr60_1 : ∃ ii z, Try.prog.info? 60 = some ii ∧ ii.zero = some z ∧ ii.size = 3 ∧ (Array.range (1 * 3)).map (fun i => z.cells[i % z.cells.size]!) = (([.int .u64 0] : List Value) ++ (([.slice none 0 0] : List Value) ++ ([.int .i64 0] : List Value))).toArray := ⟨_, _, rfl, rfl, rfl, by kernel_rfl⟩
theorem ent24 : Ent Try.prog 24 := Ent.of Try.func24 (by kernel_rfl) (by kernel_rfl)
theorem fld60_1 : fieldB Try.prog 60 1 22 1 1 = true := by kernel_rfl
theorem cells22 : Try.prog.cellsOf 22 = 1 := by kernel_rfl
theorem siz60 : (Try.prog.info? 60).map (·.size) = some 3 := by kernel_rfl
theorem ent25 : Ent Try.prog 25 := Ent.of Try.func25 (by kernel_rfl) (by kernel_rfl)
theorem ent11 : Ent Try.prog 11 := Ent.of Try.func11 (by kernel_rfl) (by kernel_rfl)
theorem nagg22 : OneCell Try.prog 22 := OneCell.of Try.underlying22 rfl
theorem ent12 : Ent Try.prog 12 := Ent.of Try.func12 (by kernel_rfl) (by kernel_rfl)
theorem ent16 : Ent Try.prog 16 := Ent.of Try.func16 (by kernel_rfl) (by kernel_rfl)
theorem ent18 : Ent Try.prog 18 := Ent.of Try.func18 (by kernel_rfl) (by kernel_rfl)
theorem elem29 : ElemT Try.prog 29 (.int .u64 0) 8 := ElemT.of (by kernel_rfl) rfl (by decide)
theorem ent13 : Ent Try.prog 13 := Ent.of Try.func13 (by kernel_rfl) (by kernel_rfl)
theorem ent8 : Ent Try.prog 8 := Ent.of Try.func8 (by kernel_rfl) (by kernel_rfl)
theorem plc39 : placesB Try.prog 39 [(0, 1), (1, 1)] = true := by kernel_rfl
theorem zero39 : ZeroT Try.prog 39 (([.int .i64 0] : List Value) ++ ([.slice none 0 0] : List Value)) := ZeroT.of (by kernel_rfl)
theorem row39 : RowT Try.prog 39 2 := RowT.of Try.underlying39 rfl (by kernel_rfl)
theorem cells41 : Try.prog.cellsOf 41 = 4 := by kernel_rfl
theorem row41 : RowT Try.prog 41 4 := RowT.of Try.underlying41 rfl (by kernel_rfl)
theorem zero41 : ZeroT Try.prog 41 (([.int .i64 0] : List Value) ++ (([.int .u64 0] : List Value) ++ (([.slice none 0 0] : List Value) ++ ([.bool false] : List Value)))) := ZeroT.of (by kernel_rfl)
theorem fld41_2 : fieldB Try.prog 41 2 22 2 1 = true := by kernel_rfl
theorem fld41_3 : fieldB Try.prog 41 3 4 3 1 = true := by kernel_rfl
theorem nagg4 : OneCell Try.prog 4 := OneCell.of Try.underlying4 rfl
theorem cells5 : Try.prog.cellsOf 5 = 1 := by kernel_rfl
theorem nagg5 : OneCell Try.prog 5 := OneCell.of Try.underlying5 rfl
theorem ent9 : Ent Try.prog 9 := Ent.of Try.func9 (by kernel_rfl) (by kernel_rfl)
theorem fld41_0 : fieldB Try.prog 41 0 3 0 1 = true := by kernel_rfl
theorem fld41_1 : fieldB Try.prog 41 1 29 1 1 = true := by kernel_rfl
theorem fld39_1 : fieldB Try.prog 39 1 37 1 1 = true := by kernel_rfl
theorem nagg37 : OneCell Try.prog 37 := OneCell.of Try.underlying37 rfl
theorem cells51 : Try.prog.cellsOf 51 = 3 := by kernel_rfl
theorem fld51_0 : fieldB Try.prog 51 0 29 0 1 = true := by kernel_rfl
theorem ent26 : Ent Try.prog 26 := Ent.of Try.func26 (by kernel_rfl) (by kernel_rfl)
theorem row51 : RowT Try.prog 51 3 := RowT.of Try.underlying51 rfl (by kernel_rfl)
theorem zero51 : ZeroT Try.prog 51 (([.int .u64 0] : List Value) ++ (([.string ByteArray.empty] : List Value) ++ ([.int .i64 0] : List Value))) := ZeroT.of (by kernel_rfl)
theorem fld51_1 : fieldB Try.prog 51 1 9 1 1 = true := by kernel_rfl
theorem cells9 : Try.prog.cellsOf 9 = 1 := by kernel_rfl
theorem elemS51 : ElemS Try.prog 51 (.agg #[.int .u64 0, .string ByteArray.empty, .int .i64 0]) 3 32 := ElemS.of (by kernel_rfl) rfl (by decide)
theorem ent28 : Ent Try.prog 28 := Ent.of Try.func28 (by kernel_rfl) (by kernel_rfl)
theorem slr51_1 : ∃ ii z, Try.prog.info? 51 = some ii ∧ ii.zero = some z ∧ ii.size = 3 ∧ (Array.range (1 * 3)).map (fun i => z.cells[i % z.cells.size]!) = (([.int .u64 0] : List Value) ++ (([.string ByteArray.empty] : List Value) ++ ([.int .i64 0] : List Value))).toArray := ⟨_, _, rfl, rfl, rfl, by kernel_rfl⟩
theorem ent27 : Ent Try.prog 27 := Ent.of Try.func27 (by kernel_rfl) (by kernel_rfl)
theorem cells37 : Try.prog.cellsOf 37 = 1 := by kernel_rfl
theorem fld39_0 : fieldB Try.prog 39 0 3 0 1 = true := by kernel_rfl
theorem fld51_2 : fieldB Try.prog 51 2 3 2 1 = true := by kernel_rfl
theorem plc51 : placesB Try.prog 51 [(0, 1), (1, 1), (2, 1)] = true := by kernel_rfl
theorem ent14 : Ent Try.prog 14 := Ent.of Try.func14 (by kernel_rfl) (by kernel_rfl)
theorem cells29 : Try.prog.cellsOf 29 = 1 := by kernel_rfl
theorem nagg9 : OneCell Try.prog 9 := OneCell.of Try.underlying9 rfl
theorem ent15 : Ent Try.prog 15 := Ent.of Try.func15 (by kernel_rfl) (by kernel_rfl)
theorem ent17 : Ent Try.prog 17 := Ent.of Try.func17 (by kernel_rfl) (by kernel_rfl)
theorem ent19 : Ent Try.prog 19 := Ent.of Try.func19 (by kernel_rfl) (by kernel_rfl)
theorem ent20 : Ent Try.prog 20 := Ent.of Try.func20 (by kernel_rfl) (by kernel_rfl)
theorem ent21 : Ent Try.prog 21 := Ent.of Try.func21 (by kernel_rfl) (by kernel_rfl)
theorem wide : Try.prog.follows .mixedOrders = true := by kernel_rfl
end Go.Proofs.Ytjilndiemfhapaa
