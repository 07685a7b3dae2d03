/- Closed facts of the program that the walks name: types of one cell, sizes, elements, entries of functions. -/
import Derived.Test.YtkcpocplohdobaaDoorKrJ
import Derived.Test.YtkcpocplohdobaaDoorProg
import Derived.KernelRfl
namespace Go.Proofs.YtkcpocplohdobaaDoor
open Go Go.Kr Go.RowKit
def tab0 : List Int := [0, 4, 8, 12, 1, 5, 9, 13, 2, 6, 10, 14, 3, 7, 11, 15, 0, 5, 10, 15, 1, 6, 11, 12, 2, 7, 8, 13, 3, 4, 9, 14]
theorem tab0_len : tab0.length = 32 := rfl
theorem cells5 : Tryd.prog.cellsOf 5 = 1 := by kernel_rfl
theorem arr23 : ArrT Tryd.prog 23 32 5 .u8 := ArrT.of Tryd.underlying23 Tryd.underlying5 (by kernel_rfl) (by kernel_rfl) (by kernel_rfl)
theorem elem5 : ElemT Tryd.prog 5 (.int .u8 0) 1 := ElemT.of (by kernel_rfl) rfl (by decide)
theorem ent14 : Ent Tryd.prog 14 := Ent.of Tryd.func14 (by kernel_rfl) (by kernel_rfl)
theorem arr47 : ArrT Tryd.prog 47 12 5 .u8 := ArrT.of Tryd.underlying47 Tryd.underlying5 (by kernel_rfl) (by kernel_rfl) (by kernel_rfl)
theorem ent31 : Ent Tryd.prog 31 := Ent.of Tryd.func31 (by kernel_rfl) (by kernel_rfl)
theorem ent19 : Ent Tryd.prog 19 := Ent.of Tryd.func19 (by kernel_rfl) (by kernel_rfl)
theorem elem26 : ElemT Tryd.prog 26 (.slice none 0 0) 24 := ElemT.of (by kernel_rfl) rfl (by decide)
theorem cells26 : Tryd.prog.cellsOf 26 = 1 := by kernel_rfl
theorem nagg26 : OneCell Tryd.prog 26 := OneCell.of Tryd.underlying26 rfl
theorem ent30 : Ent Tryd.prog 30 := Ent.of Tryd.func30 (by kernel_rfl) (by kernel_rfl)
theorem ent18 : Ent Tryd.prog 18 := Ent.of Tryd.func18 (by kernel_rfl) (by kernel_rfl)
theorem ent16 : Ent Tryd.prog 16 := Ent.of Tryd.func16 (by kernel_rfl) (by kernel_rfl)
theorem nagg24 : OneCell Tryd.prog 24 := OneCell.of Tryd.underlying24 rfl
theorem ent27 : Ent Tryd.prog 27 := Ent.of Tryd.func27 (by kernel_rfl) (by kernel_rfl)
theorem nagg3 : OneCell Tryd.prog 3 := OneCell.of Tryd.underlying3 rfl
theorem ent35 : Ent Tryd.prog 35 := Ent.of Tryd.func35 (by kernel_rfl) (by kernel_rfl)
theorem ent28 : Ent Tryd.prog 28 := Ent.of Tryd.func28 (by kernel_rfl) (by kernel_rfl)
theorem arr60 : ArrT Tryd.prog 60 64 5 .u8 := ArrT.of Tryd.underlying60 Tryd.underlying5 (by kernel_rfl) (by kernel_rfl) (by kernel_rfl)
theorem cells24 : Tryd.prog.cellsOf 24 = 1 := by kernel_rfl
theorem arr67 : ArrT Tryd.prog 67 16 24 .u32 := ArrT.of Tryd.underlying67 Tryd.underlying24 (by kernel_rfl) (by kernel_rfl) (by kernel_rfl)
theorem ent33 : Ent Tryd.prog 33 := Ent.of Tryd.func33 (by kernel_rfl) (by kernel_rfl)
theorem nagg5 : OneCell Tryd.prog 5 := OneCell.of Tryd.underlying5 rfl
theorem ent23 : Ent Tryd.prog 23 := Ent.of Tryd.func23 (by kernel_rfl) (by kernel_rfl)
theorem ent41 : Ent Tryd.prog 41 := Ent.of Tryd.func41 (by kernel_rfl) (by kernel_rfl)
theorem ent36 : Ent Tryd.prog 36 := Ent.of Tryd.func36 (by kernel_rfl) (by kernel_rfl)
theorem row72 : RowT Tryd.prog 72 32 := RowT.of Tryd.underlying72 rfl (by kernel_rfl)
theorem row71 : RowT Tryd.prog 71 4 := RowT.of Tryd.underlying71 rfl (by kernel_rfl)
theorem cells3 : Tryd.prog.cellsOf 3 = 1 := by kernel_rfl
theorem arr71 : ArrT Tryd.prog 71 4 3 .i64 := ArrT.of Tryd.underlying71 Tryd.underlying3 (by kernel_rfl) (by kernel_rfl) (by kernel_rfl)
theorem ent38 : Ent Tryd.prog 38 := Ent.of Tryd.func38 (by kernel_rfl) (by kernel_rfl)
theorem ent37 : Ent Tryd.prog 37 := Ent.of Tryd.func37 (by kernel_rfl) (by kernel_rfl)
theorem ent29 : Ent Tryd.prog 29 := Ent.of Tryd.func29 (by kernel_rfl) (by kernel_rfl)
theorem ent15 : Ent Tryd.prog 15 := Ent.of Tryd.func15 (by kernel_rfl) (by kernel_rfl)
theorem ent17 : Ent Tryd.prog 17 := Ent.of Tryd.func17 (by kernel_rfl) (by kernel_rfl)
theorem ent10 : Ent Tryd.prog 10 := Ent.of Tryd.func10 (by kernel_rfl) (by kernel_rfl)
theorem ent25 : Ent Tryd.prog 25 := Ent.of Tryd.func25 (by kernel_rfl) (by kernel_rfl)
theorem ent34 : Ent Tryd.prog 34 := Ent.of Tryd.func34 (by kernel_rfl) (by kernel_rfl)
theorem ent24 : Ent Tryd.prog 24 := Ent.of Tryd.func24 (by kernel_rfl) (by kernel_rfl)
theorem ent12 : Ent Tryd.prog 12 := Ent.of Tryd.func12 (by kernel_rfl) (by kernel_rfl)
theorem ent8 : Ent Tryd.prog 8 := Ent.of Tryd.func8 (by kernel_rfl) (by kernel_rfl)
theorem elem3 : ElemT Tryd.prog 3 (.int .i64 0) 8 := ElemT.of (by kernel_rfl) rfl (by decide)
theorem ent9 : Ent Tryd.prog 9 := Ent.of Tryd.func9 (by kernel_rfl) (by kernel_rfl)
theorem ent20 : Ent Tryd.prog 20 := Ent.of Tryd.func20 (by kernel_rfl) (by kernel_rfl)
theorem ent22 : Ent Tryd.prog 22 := Ent.of Tryd.func22 (by kernel_rfl) (by kernel_rfl)
theorem ent26 : Ent Tryd.prog 26 := Ent.of Tryd.func26 (by kernel_rfl) (by kernel_rfl)
theorem ent39 : Ent Tryd.prog 39 := Ent.of Tryd.func39 (by kernel_rfl) (by kernel_rfl)
theorem ent42 : Ent Tryd.prog 42 := Ent.of Tryd.func42 (by kernel_rfl) (by kernel_rfl)
theorem ent40 : Ent Tryd.prog 40 := Ent.of Tryd.func40 (by kernel_rfl) (by kernel_rfl)
theorem ent32 : Ent Tryd.prog 32 := Ent.of Tryd.func32 (by kernel_rfl) (by kernel_rfl)
theorem ent21 : Ent Tryd.prog 21 := Ent.of Tryd.func21 (by kernel_rfl) (by kernel_rfl)
theorem ent11 : Ent Tryd.prog 11 := Ent.of Tryd.func11 (by kernel_rfl) (by kernel_rfl)
theorem ent13 : Ent Tryd.prog 13 := Ent.of Tryd.func13 (by kernel_rfl) (by kernel_rfl)
theorem wide : Tryd.prog.follows .mixedOrders = true := by kernel_rfl
end Go.Proofs.YtkcpocplohdobaaDoor
