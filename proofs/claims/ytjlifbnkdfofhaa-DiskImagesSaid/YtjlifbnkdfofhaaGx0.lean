/- Closed facts of the program that the walks name: types of one cell, sizes, elements, entries of functions. -/
import Derived.Test.YtjlifbnkdfofhaaKrP
import Derived.Test.YtjlifbnkdfofhaaProg
import Derived.KernelRfl
namespace Go.Proofs.Ytjlifbnkdfofhaa
open Go Go.Kr Go.RowKit
abbrev R33 : Type := Int × Int × (List Int) × (List Bool) × Bool
def f33 (w : World) (x : R33) : List (Lf w) := [.int .i64 x.1, .int .i64 x.2.1, .row .u8 x.2.2.1, .bools x.2.2.2.1, .bool x.2.2.2.2]
theorem fz33 (w : World) : SizedF (f33 w) 5 := fun _ => rfl
theorem inv33 {w : World} {T : Pool} {ms : Cs} {x : R33} (h : HLs T ms (f33 w x)) : ∃ A2 n2 c2 A3 n3 c3, ms = ([.int .i64 x.1] : Cs) ++ (([.int .i64 x.2.1] : Cs) ++ (([.slice A2 n2 c2] : Cs) ++ (([.slice A3 n3 c3] : Cs) ++ ([.bool x.2.2.2.2] : Cs)))) ∧ HB w T A2 n2 c2 (iv .u8 x.2.2.1) x.2.2.1.length ∧ HB w T A3 n3 c3 (bv x.2.2.2.1) x.2.2.2.1.length := by
  obtain ⟨v0, vs0, rfl, h0, h⟩ := h.inv
  obtain ⟨v1, vs1, rfl, h1, h⟩ := h.inv
  obtain ⟨v2, vs2, rfl, h2, h⟩ := h.inv
  obtain ⟨v3, vs3, rfl, h3, h⟩ := h.inv
  obtain ⟨v4, vs4, rfl, h4, h⟩ := h.inv
  obtain rfl := h.inv0
  obtain rfl := h0
  obtain rfl := h1
  obtain ⟨A2, n2, c2, rfl, k2⟩ := h2
  obtain ⟨A3, n3, c3, rfl, k3⟩ := h3
  obtain rfl := h4
  exact ⟨A2, n2, c2, A3, n3, c3, rfl, k2, k3⟩
abbrev R22 : Type := (List Int)
def f22 (w : World) (x : R22) : List (Lf w) := [.row .u8 x]
theorem fz22 (w : World) : SizedF (f22 w) 1 := fun _ => rfl
theorem inv22 {w : World} {T : Pool} {ms : Cs} {x : R22} (h : HLs T ms (f22 w x)) : ∃ A0 n0 c0, ms = ([.slice A0 n0 c0] : Cs) ∧ HB w T A0 n0 c0 (iv .u8 x) x.length := by
  obtain ⟨v0, vs0, rfl, h0, h⟩ := h.inv
  obtain rfl := h.inv0
  obtain ⟨A0, n0, c0, rfl, k0⟩ := h0
  exact ⟨A0, n0, c0, rfl, k0⟩
abbrev R69 : Type := Int × (List Int)
def f69 (w : World) (x : R69) : List (Lf w) := [.int .i64 x.1, .row .u8 x.2]
theorem fz69 (w : World) : SizedF (f69 w) 2 := fun _ => rfl
theorem inv69 {w : World} {T : Pool} {ms : Cs} {x : R69} (h : HLs T ms (f69 w x)) : ∃ A1 n1 c1, ms = ([.int .i64 x.1] : Cs) ++ ([.slice A1 n1 c1] : Cs) ∧ HB w T A1 n1 c1 (iv .u8 x.2) x.2.length := by
  obtain ⟨v0, vs0, rfl, h0, h⟩ := h.inv
  obtain ⟨v1, vs1, rfl, h1, h⟩ := h.inv
  obtain rfl := h.inv0
  obtain rfl := h0
  obtain ⟨A1, n1, c1, rfl, k1⟩ := h1
  exact ⟨A1, n1, c1, rfl, k1⟩
abbrev R71 : Type := Int × Int
def f71 (w : World) (x : R71) : List (Lf w) := [.int .i64 x.1, .int .i64 x.2]
theorem fz71 (w : World) : SizedF (f71 w) 2 := fun _ => rfl
theorem inv71 {w : World} {T : Pool} {ms : Cs} {x : R71} (h : HLs T ms (f71 w x)) : ms = ([.int .i64 x.1] : Cs) ++ ([.int .i64 x.2] : Cs) := by
  obtain ⟨v0, vs0, rfl, h0, h⟩ := h.inv
  obtain ⟨v1, vs1, rfl, h1, h⟩ := h.inv
  obtain rfl := h.inv0
  obtain rfl := h0
  obtain rfl := h1
  exact rfl
abbrev R86 : Type := Int × ByteArray
def f86 (w : World) (x : R86) : List (Lf w) := [.int .i64 x.1, .str x.2]
theorem fz86 (w : World) : SizedF (f86 w) 2 := fun _ => rfl
theorem inv86 {w : World} {T : Pool} {ms : Cs} {x : R86} (h : HLs T ms (f86 w x)) : ms = ([.int .i64 x.1] : Cs) ++ ([.string x.2] : Cs) := by
  obtain ⟨v0, vs0, rfl, h0, h⟩ := h.inv
  obtain ⟨v1, vs1, rfl, h1, h⟩ := h.inv
  obtain rfl := h.inv0
  obtain rfl := h0
  obtain rfl := h1
  exact rfl
abbrev R81 : Type := Int × Int
def f81 (w : World) (x : R81) : List (Lf w) := [.int .i64 x.1, .int .i64 x.2]
theorem fz81 (w : World) : SizedF (f81 w) 2 := fun _ => rfl
theorem inv81 {w : World} {T : Pool} {ms : Cs} {x : R81} (h : HLs T ms (f81 w x)) : ms = ([.int .i64 x.1] : Cs) ++ ([.int .i64 x.2] : Cs) := by
  obtain ⟨v0, vs0, rfl, h0, h⟩ := h.inv
  obtain ⟨v1, vs1, rfl, h1, h⟩ := h.inv
  obtain rfl := h.inv0
  obtain rfl := h0
  obtain rfl := h1
  exact rfl
abbrev R9 : Type := ByteArray
def f9 (w : World) (x : R9) : List (Lf w) := [.str x]
theorem fz9 (w : World) : SizedF (f9 w) 1 := fun _ => rfl
theorem inv9 {w : World} {T : Pool} {ms : Cs} {x : R9} (h : HLs T ms (f9 w x)) : ms = ([.string x] : Cs) := by
  obtain ⟨v0, vs0, rfl, h0, h⟩ := h.inv
  obtain rfl := h.inv0
  obtain rfl := h0
  exact rfl
theorem plc66 : placesB Try.prog 66 [(0, 1), (1, 1), (2, 1), (3, 1), (4, 1)] = true := by kernel_rfl
theorem zero66 : ZeroT Try.prog 66 (([.slice none 0 0] : Cs) ++ (([.slice none 0 0] : Cs) ++ (([.int .i64 0] : Cs) ++ (([.bool false] : Cs) ++ ([.slice none 0 0] : Cs))))) := ZeroT.of (by kernel_rfl)
theorem fld66_0 : fieldB Try.prog 66 0 41 0 1 = true := by kernel_rfl
theorem nagg41 : OneCell Try.prog 41 := OneCell.of Try.underlying41 rfl
theorem elem5 : ElemT Try.prog 5 (.int .u8 0) 1 := ElemT.of (by kernel_rfl) rfl (by decide)
theorem elem22 : ElemT Try.prog 22 (.slice none 0 0) 24 := ElemT.of (by kernel_rfl) rfl (by decide)
theorem elemS22 : ElemS Try.prog 22 (.slice none 0 0) 1 24 := ElemS.of (by kernel_rfl) rfl (by decide)
theorem cells41 : Try.prog.cellsOf 41 = 1 := by kernel_rfl
theorem ent10 : Ent Try.prog 10 := Ent.of Try.func10 (by kernel_rfl) (by kernel_rfl)
theorem cells5 : Try.prog.cellsOf 5 = 1 := by kernel_rfl
theorem fld66_3 : fieldB Try.prog 66 3 4 3 1 = true := by kernel_rfl
theorem nagg4 : OneCell Try.prog 4 := OneCell.of Try.underlying4 rfl
theorem ent28 : Ent Try.prog 28 := Ent.of Try.func28 (by kernel_rfl) (by kernel_rfl)
theorem fld66_2 : fieldB Try.prog 66 2 3 2 1 = true := by kernel_rfl
theorem nagg3 : OneCell Try.prog 3 := OneCell.of Try.underlying3 rfl
theorem cells4 : Try.prog.cellsOf 4 = 1 := by kernel_rfl
theorem cells3 : Try.prog.cellsOf 3 = 1 := by kernel_rfl
theorem fld66_1 : fieldB Try.prog 66 1 64 1 1 = true := by kernel_rfl
theorem nagg64 : OneCell Try.prog 64 := OneCell.of Try.underlying64 rfl
theorem ent29 : Ent Try.prog 29 := Ent.of Try.func29 (by kernel_rfl) (by kernel_rfl)
theorem plc69 : placesB Try.prog 69 [(0, 1), (1, 1)] = true := by kernel_rfl
theorem zero69 : ZeroT Try.prog 69 (([.int .i64 0] : Cs) ++ ([.slice none 0 0] : Cs)) := ZeroT.of (by kernel_rfl)
theorem slr69_1 : ∃ ii z, Try.prog.info? 69 = some ii ∧ ii.zero = some z ∧ ii.size = 2 ∧ (Array.range (1 * 2)).map (fun i => z.cells[i % z.cells.size]!) = (([.int .i64 0] : Cs) ++ ([.slice none 0 0] : Cs)).toArray := ⟨_, _, rfl, rfl, rfl, by kernel_rfl⟩
theorem elemS69 : ElemS Try.prog 69 (.agg #[.int .i64 0, .slice none 0 0]) 2 32 := ElemS.of (by kernel_rfl) rfl (by decide)
theorem cells64 : Try.prog.cellsOf 64 = 1 := by kernel_rfl
theorem fld66_4 : fieldB Try.prog 66 4 61 4 1 = true := by kernel_rfl
theorem nagg61 : OneCell Try.prog 61 := OneCell.of Try.underlying61 rfl
theorem plc71 : placesB Try.prog 71 [(0, 1), (1, 1)] = true := by kernel_rfl
theorem zero71 : ZeroT Try.prog 71 (([.int .i64 0] : Cs) ++ ([.int .i64 0] : Cs)) := ZeroT.of (by kernel_rfl)
theorem slr71_1 : ∃ ii z, Try.prog.info? 71 = some ii ∧ ii.zero = some z ∧ ii.size = 2 ∧ (Array.range (1 * 2)).map (fun i => z.cells[i % z.cells.size]!) = (([.int .i64 0] : Cs) ++ ([.int .i64 0] : Cs)).toArray := ⟨_, _, rfl, rfl, rfl, by kernel_rfl⟩
theorem elemS71 : ElemS Try.prog 71 (.agg #[.int .i64 0, .int .i64 0]) 2 16 := ElemS.of (by kernel_rfl) rfl (by decide)
theorem cells61 : Try.prog.cellsOf 61 = 1 := by kernel_rfl
theorem ent11 : Ent Try.prog 11 := Ent.of Try.func11 (by kernel_rfl) (by kernel_rfl)
theorem zero22 : ZeroT Try.prog 22 ([.slice none 0 0]) := ZeroT.of (by kernel_rfl)
theorem zero26 : ZeroT Try.prog 26 ([.int .i64 0]) := ZeroT.of (by kernel_rfl)
theorem cells22 : Try.prog.cellsOf 22 = 1 := by kernel_rfl
theorem cells26 : Try.prog.cellsOf 26 = 1 := by kernel_rfl
theorem nagg22 : OneCell Try.prog 22 := OneCell.of Try.underlying22 rfl
theorem nagg26 : OneCell Try.prog 26 := OneCell.of Try.underlying26 rfl
theorem cells69 : Try.prog.cellsOf 69 = 2 := by kernel_rfl
theorem row69 : RowT Try.prog 69 2 := RowT.of Try.underlying69 rfl (by kernel_rfl)
theorem ent43 : Ent Try.prog 43 := Ent.of Try.func43 (by kernel_rfl) (by kernel_rfl)
theorem ent30 : Ent Try.prog 30 := Ent.of Try.func30 (by kernel_rfl) (by kernel_rfl)
theorem fld69_0 : fieldB Try.prog 69 0 3 0 1 = true := by kernel_rfl
theorem fld69_1 : fieldB Try.prog 69 1 22 1 1 = true := by kernel_rfl
theorem ent15 : Ent Try.prog 15 := Ent.of Try.func15 (by kernel_rfl) (by kernel_rfl)
theorem ent13 : Ent Try.prog 13 := Ent.of Try.func13 (by kernel_rfl) (by kernel_rfl)
theorem ent14 : Ent Try.prog 14 := Ent.of Try.func14 (by kernel_rfl) (by kernel_rfl)
theorem nagg5 : OneCell Try.prog 5 := OneCell.of Try.underlying5 rfl
theorem ent26 : Ent Try.prog 26 := Ent.of Try.func26 (by kernel_rfl) (by kernel_rfl)
theorem ent42 : Ent Try.prog 42 := Ent.of Try.func42 (by kernel_rfl) (by kernel_rfl)
theorem ent27 : Ent Try.prog 27 := Ent.of Try.func27 (by kernel_rfl) (by kernel_rfl)
theorem ent9 : Ent Try.prog 9 := Ent.of Try.func9 (by kernel_rfl) (by kernel_rfl)
theorem zero48 : ZeroT Try.prog 48 (([.int .i64 0] : Cs) ++ (([.slice none 0 0] : Cs) ++ (([.slice none 0 0] : Cs) ++ (([.int .i64 0] : Cs) ++ (([.bool false] : Cs) ++ ([.slice none 0 0] : Cs)))))) := ZeroT.of (by kernel_rfl)
theorem plc48 : placesB Try.prog 48 [(0, 1), (1, 1), (2, 1), (3, 1), (4, 1), (5, 1)] = true := by kernel_rfl
theorem row48 : RowT Try.prog 48 6 := RowT.of Try.underlying48 rfl (by kernel_rfl)
theorem ent18 : Ent Try.prog 18 := Ent.of Try.func18 (by kernel_rfl) (by kernel_rfl)
theorem cells33 : Try.prog.cellsOf 33 = 5 := by kernel_rfl
theorem row33 : RowT Try.prog 33 5 := RowT.of Try.underlying33 rfl (by kernel_rfl)
theorem fld33_4 : fieldB Try.prog 33 4 4 4 1 = true := by kernel_rfl
theorem fld33_2 : fieldB Try.prog 33 2 22 2 1 = true := by kernel_rfl
theorem ent12 : Ent Try.prog 12 := Ent.of Try.func12 (by kernel_rfl) (by kernel_rfl)
theorem fld33_0 : fieldB Try.prog 33 0 3 0 1 = true := by kernel_rfl
theorem fld33_1 : fieldB Try.prog 33 1 3 1 1 = true := by kernel_rfl
theorem fld48_4 : fieldB Try.prog 48 4 4 4 1 = true := by kernel_rfl
theorem fld48_0 : fieldB Try.prog 48 0 3 0 1 = true := by kernel_rfl
theorem ent44 : Ent Try.prog 44 := Ent.of Try.func44 (by kernel_rfl) (by kernel_rfl)
theorem fld48_3 : fieldB Try.prog 48 3 3 3 1 = true := by kernel_rfl
theorem fld48_2 : fieldB Try.prog 48 2 45 2 1 = true := by kernel_rfl
theorem nagg45 : OneCell Try.prog 45 := OneCell.of Try.underlying45 rfl
theorem plc86 : placesB Try.prog 86 [(0, 1), (1, 1)] = true := by kernel_rfl
theorem zero86 : ZeroT Try.prog 86 (([.int .i64 0] : Cs) ++ ([.string ByteArray.empty] : Cs)) := ZeroT.of (by kernel_rfl)
theorem elemS86 : ElemS Try.prog 86 (.agg #[.int .i64 0, .string ByteArray.empty]) 2 24 := ElemS.of (by kernel_rfl) rfl (by decide)
theorem row86 : RowT Try.prog 86 2 := RowT.of Try.underlying86 rfl (by kernel_rfl)
theorem slr86_1 : ∃ ii z, Try.prog.info? 86 = some ii ∧ ii.zero = some z ∧ ii.size = 2 ∧ (Array.range (1 * 2)).map (fun i => z.cells[i % z.cells.size]!) = (([.int .i64 0] : Cs) ++ ([.string ByteArray.empty] : Cs)).toArray := ⟨_, _, rfl, rfl, rfl, by kernel_rfl⟩
theorem ent45 : Ent Try.prog 45 := Ent.of Try.func45 (by kernel_rfl) (by kernel_rfl)
theorem cells45 : Try.prog.cellsOf 45 = 1 := by kernel_rfl
theorem fld48_5 : fieldB Try.prog 48 5 46 5 1 = true := by kernel_rfl
theorem nagg46 : OneCell Try.prog 46 := OneCell.of Try.underlying46 rfl
theorem elemS81 : ElemS Try.prog 81 (.agg #[.int .i64 0, .int .i64 0]) 2 16 := ElemS.of (by kernel_rfl) rfl (by decide)
theorem plc81 : placesB Try.prog 81 [(0, 1), (1, 1)] = true := by kernel_rfl
theorem zero81 : ZeroT Try.prog 81 (([.int .i64 0] : Cs) ++ ([.int .i64 0] : Cs)) := ZeroT.of (by kernel_rfl)
theorem slr81_1 : ∃ ii z, Try.prog.info? 81 = some ii ∧ ii.zero = some z ∧ ii.size = 2 ∧ (Array.range (1 * 2)).map (fun i => z.cells[i % z.cells.size]!) = (([.int .i64 0] : Cs) ++ ([.int .i64 0] : Cs)).toArray := ⟨_, _, rfl, rfl, rfl, by kernel_rfl⟩
theorem cells46 : Try.prog.cellsOf 46 = 1 := by kernel_rfl
theorem ent46 : Ent Try.prog 46 := Ent.of Try.func46 (by kernel_rfl) (by kernel_rfl)
theorem ent31 : Ent Try.prog 31 := Ent.of Try.func31 (by kernel_rfl) (by kernel_rfl)
theorem cells86 : Try.prog.cellsOf 86 = 2 := by kernel_rfl
theorem fld86_0 : fieldB Try.prog 86 0 3 0 1 = true := by kernel_rfl
theorem fld86_1 : fieldB Try.prog 86 1 9 1 1 = true := by kernel_rfl
theorem nagg9 : OneCell Try.prog 9 := OneCell.of Try.underlying9 rfl
theorem ent47 : Ent Try.prog 47 := Ent.of Try.func47 (by kernel_rfl) (by kernel_rfl)
theorem fld48_1 : fieldB Try.prog 48 1 45 1 1 = true := by kernel_rfl
theorem ent37 : Ent Try.prog 37 := Ent.of Try.func37 (by kernel_rfl) (by kernel_rfl)
theorem ent32 : Ent Try.prog 32 := Ent.of Try.func32 (by kernel_rfl) (by kernel_rfl)
theorem ent16 : Ent Try.prog 16 := Ent.of Try.func16 (by kernel_rfl) (by kernel_rfl)
theorem ent33 : Ent Try.prog 33 := Ent.of Try.func33 (by kernel_rfl) (by kernel_rfl)
theorem ent24 : Ent Try.prog 24 := Ent.of Try.func24 (by kernel_rfl) (by kernel_rfl)
theorem ent34 : Ent Try.prog 34 := Ent.of Try.func34 (by kernel_rfl) (by kernel_rfl)
theorem fld33_3 : fieldB Try.prog 33 3 23 3 1 = true := by kernel_rfl
theorem nagg23 : OneCell Try.prog 23 := OneCell.of Try.underlying23 rfl
theorem ent35 : Ent Try.prog 35 := Ent.of Try.func35 (by kernel_rfl) (by kernel_rfl)
theorem ent41 : Ent Try.prog 41 := Ent.of Try.func41 (by kernel_rfl) (by kernel_rfl)
theorem ent49 : Ent Try.prog 49 := Ent.of Try.func49 (by kernel_rfl) (by kernel_rfl)
theorem ent40 : Ent Try.prog 40 := Ent.of Try.func40 (by kernel_rfl) (by kernel_rfl)
theorem ent25 : Ent Try.prog 25 := Ent.of Try.func25 (by kernel_rfl) (by kernel_rfl)
theorem ent36 : Ent Try.prog 36 := Ent.of Try.func36 (by kernel_rfl) (by kernel_rfl)
theorem ent19 : Ent Try.prog 19 := Ent.of Try.func19 (by kernel_rfl) (by kernel_rfl)
theorem ent17 : Ent Try.prog 17 := Ent.of Try.func17 (by kernel_rfl) (by kernel_rfl)
theorem elem9 : ElemT Try.prog 9 (.string ByteArray.empty) 16 := ElemT.of (by kernel_rfl) rfl (by decide)
theorem elemS9 : ElemS Try.prog 9 (.string ByteArray.empty) 1 16 := ElemS.of (by kernel_rfl) rfl (by decide)
theorem ent21 : Ent Try.prog 21 := Ent.of Try.func21 (by kernel_rfl) (by kernel_rfl)
theorem cells9 : Try.prog.cellsOf 9 = 1 := by kernel_rfl
theorem ent38 : Ent Try.prog 38 := Ent.of Try.func38 (by kernel_rfl) (by kernel_rfl)
theorem ent48 : Ent Try.prog 48 := Ent.of Try.func48 (by kernel_rfl) (by kernel_rfl)
theorem ent39 : Ent Try.prog 39 := Ent.of Try.func39 (by kernel_rfl) (by kernel_rfl)
theorem ent22 : Ent Try.prog 22 := Ent.of Try.func22 (by kernel_rfl) (by kernel_rfl)
theorem ent23 : Ent Try.prog 23 := Ent.of Try.func23 (by kernel_rfl) (by kernel_rfl)
theorem cells71 : Try.prog.cellsOf 71 = 2 := by kernel_rfl
theorem fld71_0 : fieldB Try.prog 71 0 3 0 1 = true := by kernel_rfl
theorem cells81 : Try.prog.cellsOf 81 = 2 := by kernel_rfl
theorem fld81_0 : fieldB Try.prog 81 0 3 0 1 = true := by kernel_rfl
theorem fld71_1 : fieldB Try.prog 71 1 3 1 1 = true := by kernel_rfl
theorem fld81_1 : fieldB Try.prog 81 1 3 1 1 = true := by kernel_rfl
theorem ent20 : Ent Try.prog 20 := Ent.of Try.func20 (by kernel_rfl) (by kernel_rfl)
theorem wide : Try.prog.follows .mixedOrders = true := by kernel_rfl
end Go.Proofs.Ytjlifbnkdfofhaa
