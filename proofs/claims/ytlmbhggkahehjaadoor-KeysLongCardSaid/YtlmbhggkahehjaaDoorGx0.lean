/- Closed facts of the program that the walks name: types of one cell, sizes, elements, entries of functions. -/
import Derived.Test.YtlmbhggkahehjaaDoorKrI
import Derived.Test.YtlmbhggkahehjaaDoorProg
import Derived.KernelRfl
namespace Go.Proofs.YtlmbhggkahehjaaDoor
open Go Go.Kr Go.RowKit
def tab0 : List Int := [1116352408, 1899447441, 3049323471, 3921009573, 961987163, 1508970993, 2453635748, 2870763221, 3624381080, 310598401, 607225278, 1426881987, 1925078388, 2162078206, 2614888103, 3248222580, 3835390401, 4022224774, 264347078, 604807628, 770255983, 1249150122, 1555081692, 1996064986, 2554220882, 2821834349, 2952996808, 3210313671, 3336571891, 3584528711, 113926993, 338241895, 666307205, 773529912, 1294757372, 1396182291, 1695183700, 1986661051, 2177026350, 2456956037, 2730485921, 2820302411, 3259730800, 3345764771, 3516065817, 3600352804, 4094571909, 275423344, 430227734, 506948616, 659060556, 883997877, 958139571, 1322822218, 1537002063, 1747873779, 1955562222, 2024104815, 2227730452, 2361852424, 2428436474, 2756734187, 3204031479, 3329325298]
theorem tab0_len : tab0.length = 64 := rfl
theorem elem5 : ElemT Tryd.prog 5 (.int .u8 0) 1 := ElemT.of (by kernel_rfl) rfl (by decide)
theorem cells5 : Tryd.prog.cellsOf 5 = 1 := by kernel_rfl
theorem arr25 : ArrT Tryd.prog 25 32 5 .u8 := ArrT.of Tryd.underlying25 Tryd.underlying5 (by kernel_rfl) (by kernel_rfl) (by kernel_rfl)
theorem nagg22 : OneCell Tryd.prog 22 := OneCell.of Tryd.underlying22 rfl
theorem ent19 : Ent Tryd.prog 19 := Ent.of Tryd.func19 (by kernel_rfl) (by kernel_rfl)
theorem cells46 : Tryd.prog.cellsOf 46 = 1 := by kernel_rfl
theorem arr50 : ArrT Tryd.prog 50 8 46 .u32 := ArrT.of Tryd.underlying50 Tryd.underlying46 (by kernel_rfl) (by kernel_rfl) (by kernel_rfl)
theorem ent20 : Ent Tryd.prog 20 := Ent.of Tryd.func20 (by kernel_rfl) (by kernel_rfl)
theorem nagg3 : OneCell Tryd.prog 3 := OneCell.of Tryd.underlying3 rfl
theorem ent26 : Ent Tryd.prog 26 := Ent.of Tryd.func26 (by kernel_rfl) (by kernel_rfl)
theorem ent21 : Ent Tryd.prog 21 := Ent.of Tryd.func21 (by kernel_rfl) (by kernel_rfl)
theorem nagg46 : OneCell Tryd.prog 46 := OneCell.of Tryd.underlying46 rfl
theorem arr58 : ArrT Tryd.prog 58 64 46 .u32 := ArrT.of Tryd.underlying58 Tryd.underlying46 (by kernel_rfl) (by kernel_rfl) (by kernel_rfl)
theorem nagg5 : OneCell Tryd.prog 5 := OneCell.of Tryd.underlying5 rfl
theorem ent30 : Ent Tryd.prog 30 := Ent.of Tryd.func30 (by kernel_rfl) (by kernel_rfl)
theorem ent28 : Ent Tryd.prog 28 := Ent.of Tryd.func28 (by kernel_rfl) (by kernel_rfl)
theorem ent27 : Ent Tryd.prog 27 := Ent.of Tryd.func27 (by kernel_rfl) (by kernel_rfl)
theorem arr47 : ArrT Tryd.prog 47 8 46 .u32 := ArrT.of Tryd.underlying47 Tryd.underlying46 (by kernel_rfl) (by kernel_rfl) (by kernel_rfl)
theorem ent22 : Ent Tryd.prog 22 := Ent.of Tryd.func22 (by kernel_rfl) (by kernel_rfl)
theorem ent14 : Ent Tryd.prog 14 := Ent.of Tryd.func14 (by kernel_rfl) (by kernel_rfl)
theorem cells22 : Tryd.prog.cellsOf 22 = 1 := by kernel_rfl
theorem ent15 : Ent Tryd.prog 15 := Ent.of Tryd.func15 (by kernel_rfl) (by kernel_rfl)
theorem elem22 : ElemT Tryd.prog 22 (.slice none 0 0) 24 := ElemT.of (by kernel_rfl) rfl (by decide)
theorem ent29 : Ent Tryd.prog 29 := Ent.of Tryd.func29 (by kernel_rfl) (by kernel_rfl)
theorem ent23 : Ent Tryd.prog 23 := Ent.of Tryd.func23 (by kernel_rfl) (by kernel_rfl)
theorem ent16 : Ent Tryd.prog 16 := Ent.of Tryd.func16 (by kernel_rfl) (by kernel_rfl)
theorem ent8 : Ent Tryd.prog 8 := Ent.of Tryd.func8 (by kernel_rfl) (by kernel_rfl)
theorem ent10 : Ent Tryd.prog 10 := Ent.of Tryd.func10 (by kernel_rfl) (by kernel_rfl)
theorem zero32 : ZeroT Tryd.prog 32 (iv .u8 (List.replicate 32 (0 : Int)) ++ (iv .u8 (List.replicate 32 (0 : Int)) ++ iv .u8 (List.replicate 32 (0 : Int)))) := ZeroT.of (by kernel_rfl)
theorem fld32_0 : fieldB Tryd.prog 32 0 25 0 32 = true := by kernel_rfl
theorem plc42 : placesB Tryd.prog 42 [(0, 1), (1, 1)] = true := by kernel_rfl
theorem zero42 : ZeroT Tryd.prog 42 (([.string ByteArray.empty] : List Value) ++ ([.pointer none] : List Value)) := ZeroT.of (by kernel_rfl)
theorem fld32_1 : fieldB Tryd.prog 32 1 25 32 32 = true := by kernel_rfl
theorem fld32_2 : fieldB Tryd.prog 32 2 25 64 32 = true := by kernel_rfl
theorem slr42_3 : ∃ ii z, Tryd.prog.info? 42 = some ii ∧ ii.zero = some z ∧ ii.size = 2 ∧ (Array.range (3 * 2)).map (fun i => z.cells[i % z.cells.size]!) = (([.string ByteArray.empty] : List Value) ++ (([.pointer none] : List Value) ++ (([.string ByteArray.empty] : List Value) ++ (([.pointer none] : List Value) ++ (([.string ByteArray.empty] : List Value) ++ ([.pointer none] : List Value)))))).toArray := ⟨_, _, rfl, rfl, rfl, by kernel_rfl⟩
theorem siz42 : (Tryd.prog.info? 42).map (·.size) = some 2 := by kernel_rfl
theorem row42 : RowT Tryd.prog 42 2 := RowT.of Tryd.underlying42 rfl (by kernel_rfl)
theorem fld42_0 : fieldB Tryd.prog 42 0 9 0 1 = true := by kernel_rfl
theorem nagg9 : OneCell Tryd.prog 9 := OneCell.of Tryd.underlying9 rfl
theorem plc32 : placesB Tryd.prog 32 [(0, 32), (32, 32), (64, 32)] = true := by kernel_rfl
theorem row32 : RowT Tryd.prog 32 96 := RowT.of Tryd.underlying32 rfl (by kernel_rfl)
theorem fld42_1 : fieldB Tryd.prog 42 1 41 1 1 = true := by kernel_rfl
theorem nagg41 : OneCell Tryd.prog 41 := OneCell.of Tryd.underlying41 rfl
theorem row25 : RowT Tryd.prog 25 32 := RowT.of Tryd.underlying25 rfl (by kernel_rfl)
theorem ent12 : Ent Tryd.prog 12 := Ent.of Tryd.func12 (by kernel_rfl) (by kernel_rfl)
theorem eqg25 : Tryd.prog.eqGuardType Tryd.prog.depth 25 = false := by kernel_rfl
theorem ent7 : Ent Tryd.prog 7 := Ent.of Tryd.func7 (by kernel_rfl) (by kernel_rfl)
theorem ent24 : Ent Tryd.prog 24 := Ent.of Tryd.func24 (by kernel_rfl) (by kernel_rfl)
theorem ent25 : Ent Tryd.prog 25 := Ent.of Tryd.func25 (by kernel_rfl) (by kernel_rfl)
theorem ent18 : Ent Tryd.prog 18 := Ent.of Tryd.func18 (by kernel_rfl) (by kernel_rfl)
theorem ent13 : Ent Tryd.prog 13 := Ent.of Tryd.func13 (by kernel_rfl) (by kernel_rfl)
theorem ent17 : Ent Tryd.prog 17 := Ent.of Tryd.func17 (by kernel_rfl) (by kernel_rfl)
theorem ent9 : Ent Tryd.prog 9 := Ent.of Tryd.func9 (by kernel_rfl) (by kernel_rfl)
theorem ent11 : Ent Tryd.prog 11 := Ent.of Tryd.func11 (by kernel_rfl) (by kernel_rfl)
theorem wide : Tryd.prog.follows .mixedOrders = true := by kernel_rfl
end Go.Proofs.YtlmbhggkahehjaaDoor
