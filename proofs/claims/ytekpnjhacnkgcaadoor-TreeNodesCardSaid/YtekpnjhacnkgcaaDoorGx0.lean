/- Closed facts of the program that the walks name: types of one cell, sizes, elements, entries of functions. -/
import Derived.Test.YtekpnjhacnkgcaaDoorKrK
import Derived.Test.YtekpnjhacnkgcaaDoorProg
import Derived.KernelRfl
namespace Go.Proofs.YtekpnjhacnkgcaaDoor
open Go Go.Kr Go.RowKit
def tab0 : List Int := [1116352408, 1899447441, 3049323471, 3921009573, 961987163, 1508970993, 2453635748, 2870763221, 3624381080, 310598401, 607225278, 1426881987, 1925078388, 2162078206, 2614888103, 3248222580, 3835390401, 4022224774, 264347078, 604807628, 770255983, 1249150122, 1555081692, 1996064986, 2554220882, 2821834349, 2952996808, 3210313671, 3336571891, 3584528711, 113926993, 338241895, 666307205, 773529912, 1294757372, 1396182291, 1695183700, 1986661051, 2177026350, 2456956037, 2730485921, 2820302411, 3259730800, 3345764771, 3516065817, 3600352804, 4094571909, 275423344, 430227734, 506948616, 659060556, 883997877, 958139571, 1322822218, 1537002063, 1747873779, 1955562222, 2024104815, 2227730452, 2361852424, 2428436474, 2756734187, 3204031479, 3329325298]
theorem tab0_len : tab0.length = 64 := rfl
theorem ent17 : Ent Tryd.prog 17 := Ent.of Tryd.func17 (by kernel_rfl) (by kernel_rfl)
theorem siz26 : (Tryd.prog.info? 26).map (·.size) = some 33 := by kernel_rfl
theorem zero28 : ZeroT Tryd.prog 28 (iv .u8 (List.replicate 32 (0 : Int)) ++ (([.int .u64 0] : List Value) ++ (iv .u8 (List.replicate 32 (0 : Int)) ++ (([.int .u64 0] : List Value) ++ (iv .u8 (List.replicate 32 (0 : Int)) ++ (([.int .u64 0] : List Value) ++ (iv .u8 (List.replicate 32 (0 : Int)) ++ ([.int .u64 0] : List Value)))))))) := ZeroT.of (by kernel_rfl)
theorem row28 : RowT Tryd.prog 28 132 := RowT.of Tryd.underlying28 rfl (by kernel_rfl)
theorem row26 : RowT Tryd.prog 26 33 := RowT.of Tryd.underlying26 rfl (by kernel_rfl)
theorem zero26 : ZeroT Tryd.prog 26 (iv .u8 (List.replicate 32 (0 : Int)) ++ ([.int .u64 0] : List Value)) := ZeroT.of (by kernel_rfl)
theorem fld26_0 : fieldB Tryd.prog 26 0 23 0 32 = true := by kernel_rfl
theorem cells5 : Tryd.prog.cellsOf 5 = 1 := by kernel_rfl
theorem arr23 : ArrT Tryd.prog 23 32 5 .u8 := ArrT.of Tryd.underlying23 Tryd.underlying5 (by kernel_rfl) (by kernel_rfl) (by kernel_rfl)
theorem fld26_1 : fieldB Tryd.prog 26 1 24 32 1 = true := by kernel_rfl
theorem nagg24 : OneCell Tryd.prog 24 := OneCell.of Tryd.underlying24 rfl
theorem ent30 : Ent Tryd.prog 30 := Ent.of Tryd.func30 (by kernel_rfl) (by kernel_rfl)
theorem elem5 : ElemT Tryd.prog 5 (.int .u8 0) 1 := ElemT.of (by kernel_rfl) rfl (by decide)
theorem ent22 : Ent Tryd.prog 22 := Ent.of Tryd.func22 (by kernel_rfl) (by kernel_rfl)
theorem elem29 : ElemT Tryd.prog 29 (.slice none 0 0) 24 := ElemT.of (by kernel_rfl) rfl (by decide)
theorem cells29 : Tryd.prog.cellsOf 29 = 1 := by kernel_rfl
theorem nagg29 : OneCell Tryd.prog 29 := OneCell.of Tryd.underlying29 rfl
theorem ent29 : Ent Tryd.prog 29 := Ent.of Tryd.func29 (by kernel_rfl) (by kernel_rfl)
theorem ent21 : Ent Tryd.prog 21 := Ent.of Tryd.func21 (by kernel_rfl) (by kernel_rfl)
theorem ent9 : Ent Tryd.prog 9 := Ent.of Tryd.func9 (by kernel_rfl) (by kernel_rfl)
theorem row23 : RowT Tryd.prog 23 32 := RowT.of Tryd.underlying23 rfl (by kernel_rfl)
theorem ent31 : Ent Tryd.prog 31 := Ent.of Tryd.func31 (by kernel_rfl) (by kernel_rfl)
theorem nagg5 : OneCell Tryd.prog 5 := OneCell.of Tryd.underlying5 rfl
theorem ent23 : Ent Tryd.prog 23 := Ent.of Tryd.func23 (by kernel_rfl) (by kernel_rfl)
theorem cells24 : Tryd.prog.cellsOf 24 = 1 := by kernel_rfl
theorem ent10 : Ent Tryd.prog 10 := Ent.of Tryd.func10 (by kernel_rfl) (by kernel_rfl)
theorem ent36 : Ent Tryd.prog 36 := Ent.of Tryd.func36 (by kernel_rfl) (by kernel_rfl)
theorem cells42 : Tryd.prog.cellsOf 42 = 1 := by kernel_rfl
theorem arr72 : ArrT Tryd.prog 72 8 42 .u32 := ArrT.of Tryd.underlying72 Tryd.underlying42 (by kernel_rfl) (by kernel_rfl) (by kernel_rfl)
theorem ent37 : Ent Tryd.prog 37 := Ent.of Tryd.func37 (by kernel_rfl) (by kernel_rfl)
theorem nagg3 : OneCell Tryd.prog 3 := OneCell.of Tryd.underlying3 rfl
theorem ent40 : Ent Tryd.prog 40 := Ent.of Tryd.func40 (by kernel_rfl) (by kernel_rfl)
theorem ent38 : Ent Tryd.prog 38 := Ent.of Tryd.func38 (by kernel_rfl) (by kernel_rfl)
theorem nagg42 : OneCell Tryd.prog 42 := OneCell.of Tryd.underlying42 rfl
theorem arr68 : ArrT Tryd.prog 68 64 42 .u32 := ArrT.of Tryd.underlying68 Tryd.underlying42 (by kernel_rfl) (by kernel_rfl) (by kernel_rfl)
theorem ent43 : Ent Tryd.prog 43 := Ent.of Tryd.func43 (by kernel_rfl) (by kernel_rfl)
theorem ent42 : Ent Tryd.prog 42 := Ent.of Tryd.func42 (by kernel_rfl) (by kernel_rfl)
theorem ent41 : Ent Tryd.prog 41 := Ent.of Tryd.func41 (by kernel_rfl) (by kernel_rfl)
theorem arr61 : ArrT Tryd.prog 61 8 42 .u32 := ArrT.of Tryd.underlying61 Tryd.underlying42 (by kernel_rfl) (by kernel_rfl) (by kernel_rfl)
theorem ent39 : Ent Tryd.prog 39 := Ent.of Tryd.func39 (by kernel_rfl) (by kernel_rfl)
theorem ent32 : Ent Tryd.prog 32 := Ent.of Tryd.func32 (by kernel_rfl) (by kernel_rfl)
theorem ent26 : Ent Tryd.prog 26 := Ent.of Tryd.func26 (by kernel_rfl) (by kernel_rfl)
theorem ent14 : Ent Tryd.prog 14 := Ent.of Tryd.func14 (by kernel_rfl) (by kernel_rfl)
theorem eqs26 : eqsB Tryd.prog 26 [(23, 0), (24, 32)] = true := by kernel_rfl
theorem eqg28 : Tryd.prog.eqGuardType Tryd.prog.depth 28 = false := by kernel_rfl
theorem plc26 : placesB Tryd.prog 26 [(0, 32), (32, 1)] = true := by kernel_rfl
theorem ent33 : Ent Tryd.prog 33 := Ent.of Tryd.func33 (by kernel_rfl) (by kernel_rfl)
theorem ent27 : Ent Tryd.prog 27 := Ent.of Tryd.func27 (by kernel_rfl) (by kernel_rfl)
theorem ent16 : Ent Tryd.prog 16 := Ent.of Tryd.func16 (by kernel_rfl) (by kernel_rfl)
theorem ent18 : Ent Tryd.prog 18 := Ent.of Tryd.func18 (by kernel_rfl) (by kernel_rfl)
theorem ent19 : Ent Tryd.prog 19 := Ent.of Tryd.func19 (by kernel_rfl) (by kernel_rfl)
theorem ent8 : Ent Tryd.prog 8 := Ent.of Tryd.func8 (by kernel_rfl) (by kernel_rfl)
theorem zero36 : ZeroT Tryd.prog 36 (iv .u8 (List.replicate 32 (0 : Int)) ++ (([.int .u64 0] : List Value) ++ (iv .u8 (List.replicate 32 (0 : Int)) ++ (([.int .u64 0] : List Value) ++ (iv .u8 (List.replicate 32 (0 : Int)) ++ (([.int .u64 0] : List Value) ++ (iv .u8 (List.replicate 32 (0 : Int)) ++ ([.int .u64 0] : List Value)))))))) := ZeroT.of (by kernel_rfl)
theorem row36 : RowT Tryd.prog 36 132 := RowT.of Tryd.underlying36 rfl (by kernel_rfl)
theorem siz35 : (Tryd.prog.info? 35).map (·.size) = some 33 := by kernel_rfl
theorem fld35_0 : fieldB Tryd.prog 35 0 23 0 32 = true := by kernel_rfl
theorem ent24 : Ent Tryd.prog 24 := Ent.of Tryd.func24 (by kernel_rfl) (by kernel_rfl)
theorem fld35_1 : fieldB Tryd.prog 35 1 24 32 1 = true := by kernel_rfl
theorem ent11 : Ent Tryd.prog 11 := Ent.of Tryd.func11 (by kernel_rfl) (by kernel_rfl)
theorem plc35 : placesB Tryd.prog 35 [(0, 32), (32, 1)] = true := by kernel_rfl
theorem zero35 : ZeroT Tryd.prog 35 (iv .u8 (List.replicate 32 (0 : Int)) ++ ([.int .u64 0] : List Value)) := ZeroT.of (by kernel_rfl)
theorem row35 : RowT Tryd.prog 35 33 := RowT.of Tryd.underlying35 rfl (by kernel_rfl)
theorem ent13 : Ent Tryd.prog 13 := Ent.of Tryd.func13 (by kernel_rfl) (by kernel_rfl)
theorem ent25 : Ent Tryd.prog 25 := Ent.of Tryd.func25 (by kernel_rfl) (by kernel_rfl)
theorem ent12 : Ent Tryd.prog 12 := Ent.of Tryd.func12 (by kernel_rfl) (by kernel_rfl)
theorem eqs35 : eqsB Tryd.prog 35 [(23, 0), (24, 32)] = true := by kernel_rfl
theorem eqg36 : Tryd.prog.eqGuardType Tryd.prog.depth 36 = false := by kernel_rfl
theorem ent34 : Ent Tryd.prog 34 := Ent.of Tryd.func34 (by kernel_rfl) (by kernel_rfl)
theorem ent35 : Ent Tryd.prog 35 := Ent.of Tryd.func35 (by kernel_rfl) (by kernel_rfl)
theorem ent28 : Ent Tryd.prog 28 := Ent.of Tryd.func28 (by kernel_rfl) (by kernel_rfl)
theorem ent20 : Ent Tryd.prog 20 := Ent.of Tryd.func20 (by kernel_rfl) (by kernel_rfl)
theorem ent15 : Ent Tryd.prog 15 := Ent.of Tryd.func15 (by kernel_rfl) (by kernel_rfl)
theorem eqg23 : Tryd.prog.eqGuardType Tryd.prog.depth 23 = false := by kernel_rfl
theorem wide : Tryd.prog.follows .mixedOrders = true := by kernel_rfl
end Go.Proofs.YtekpnjhacnkgcaaDoor
