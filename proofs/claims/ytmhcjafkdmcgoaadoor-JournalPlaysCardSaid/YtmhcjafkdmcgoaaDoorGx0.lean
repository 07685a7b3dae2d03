/- Closed facts of the program that the walks name: types of one cell, sizes, elements, entries of functions. -/
import Derived.Test.YtmhcjafkdmcgoaaDoorKrY
import Derived.Test.YtmhcjafkdmcgoaaDoorProg
import Derived.KernelRfl
namespace Go.Proofs.YtmhcjafkdmcgoaaDoor
open Go Go.Kr Go.RowKit
set_option maxRecDepth 100000
set_option linter.unusedSimpArgs false
abbrev R42 : Type := Int × (List Int)
def f42 (w : World) (x : R42) : List (Lf w) := [.int .u64 x.1, .row .u8 x.2]
theorem fz42 (w : World) : SizedF (f42 w) 2 := fun _ => rfl
theorem inv42 {w : World} {T : Pool} {ms : List Value} {x : R42} (h : HLs T ms (f42 w x)) : ∃ A1 n1 c1, ms = ([.int .u64 x.1] : List Value) ++ ([.slice A1 n1 c1] : List Value) ∧ HB w T A1 n1 c1 (iv .u8 x.2) x.2.length := by
 obtain ⟨v0, vs0, rfl, h0, h⟩ := h.inv
 obtain ⟨v1, vs1, rfl, h1, h⟩ := h.inv
 obtain rfl := h.inv0
 obtain rfl := h0
 obtain ⟨A1, n1, c1, rfl, k1⟩ := h1
 exact ⟨A1, n1, c1, rfl, k1⟩
abbrev R84 : Type := Int × (List R42) × Bool × Int × Int × (List Int) × Int × Int × (List Bool)
def f84 (w : World) (x : R84) : List (Lf w) := .int .i64 x.1 :: (.recs (f42 w) x.2.1 :: (.bool x.2.2.1 :: (.int .u64 x.2.2.2.1 :: (.int .u64 x.2.2.2.2.1 :: (arrL .u8 32 x.2.2.2.2.2.1 ++ (.int .u64 x.2.2.2.2.2.2.1 :: (.int .i64 x.2.2.2.2.2.2.2.1 :: (.bools x.2.2.2.2.2.2.2.2 :: ([])))))))))
theorem fz84 (w : World) : SizedF (f84 w) 40 := fun x => by simp [f84, arrL_length]
theorem inv84 {w : World} {T : Pool} {ms : List Value} {x : R84} (h : HLs T ms (f84 w x)) : ∃ A1 n1 c1 A8 n8 c8, ms = ([.int .i64 x.1] : List Value) ++ (([.slice A1 n1 c1] : List Value) ++ (([.bool x.2.2.1] : List Value) ++ (([.int .u64 x.2.2.2.1] : List Value) ++ (([.int .u64 x.2.2.2.2.1] : List Value) ++ (iv .u8 (pad 32 x.2.2.2.2.2.1) ++ (([.int .u64 x.2.2.2.2.2.2.1] : List Value) ++ (([.int .i64 x.2.2.2.2.2.2.2.1] : List Value) ++ ([.slice A8 n8 c8] : List Value)))))))) ∧ HS w T T A1 n1 c1 (f42 w) x.2.1 ∧ HB w T A8 n8 c8 (bv x.2.2.2.2.2.2.2.2) x.2.2.2.2.2.2.2.2.length := by
 obtain ⟨v0, vs0, rfl, h0, h⟩ := h.inv
 obtain ⟨v1, vs1, rfl, h1, h⟩ := h.inv
 obtain ⟨v2, vs2, rfl, h2, h⟩ := h.inv
 obtain ⟨v3, vs3, rfl, h3, h⟩ := h.inv
 obtain ⟨v4, vs4, rfl, h4, h⟩ := h.inv
 obtain ⟨vs5, rfl, g_⟩ := h.inv_arr; have h := g_
 obtain ⟨v6, vs6, rfl, h6, h⟩ := h.inv
 obtain ⟨v7, vs7, rfl, h7, h⟩ := h.inv
 obtain ⟨v8, vs8, rfl, h8, h⟩ := h.inv
 obtain rfl := h.inv0
 obtain rfl := h0
 obtain ⟨A1, n1, c1, rfl, k1⟩ := h1
 obtain rfl := h2
 obtain rfl := h3
 obtain rfl := h4
 obtain rfl := h6
 obtain rfl := h7
 obtain ⟨A8, n8, c8, rfl, k8⟩ := h8
 exact ⟨A1, n1, c1, A8, n8, c8, (by simp only [List.cons_append, List.nil_append, List.append_assoc, List.append_nil]), k1, k8⟩
abbrev R25 : Type := (List Int)
def f25 (w : World) (x : R25) : List (Lf w) := [.row .u8 x]
theorem fz25 (w : World) : SizedF (f25 w) 1 := fun _ => rfl
theorem inv25 {w : World} {T : Pool} {ms : List Value} {x : R25} (h : HLs T ms (f25 w x)) : ∃ A0 n0 c0, ms = ([.slice A0 n0 c0] : List Value) ∧ HB w T A0 n0 c0 (iv .u8 x) x.length := by
 obtain ⟨v0, vs0, rfl, h0, h⟩ := h.inv
 obtain rfl := h.inv0
 obtain ⟨A0, n0, c0, rfl, k0⟩ := h0
 exact ⟨A0, n0, c0, rfl, k0⟩
abbrev R124 : Type := Int × (List Int)
def f124 (w : World) (x : R124) : List (Lf w) := [.int .i64 x.1, .row .u8 x.2]
theorem fz124 (w : World) : SizedF (f124 w) 2 := fun _ => rfl
theorem inv124 {w : World} {T : Pool} {ms : List Value} {x : R124} (h : HLs T ms (f124 w x)) : ∃ A1 n1 c1, ms = ([.int .i64 x.1] : List Value) ++ ([.slice A1 n1 c1] : List Value) ∧ HB w T A1 n1 c1 (iv .u8 x.2) x.2.length := by
 obtain ⟨v0, vs0, rfl, h0, h⟩ := h.inv
 obtain ⟨v1, vs1, rfl, h1, h⟩ := h.inv
 obtain rfl := h.inv0
 obtain rfl := h0
 obtain ⟨A1, n1, c1, rfl, k1⟩ := h1
 exact ⟨A1, n1, c1, rfl, k1⟩
abbrev R48 : Type := Int × Int
def f48 (w : World) (x : R48) : List (Lf w) := [.int .i64 x.1, .int .i64 x.2]
theorem fz48 (w : World) : SizedF (f48 w) 2 := fun _ => rfl
theorem inv48 {w : World} {T : Pool} {ms : List Value} {x : R48} (h : HLs T ms (f48 w x)) : ms = ([.int .i64 x.1] : List Value) ++ ([.int .i64 x.2] : List Value) := by
 obtain ⟨v0, vs0, rfl, h0, h⟩ := h.inv
 obtain ⟨v1, vs1, rfl, h1, h⟩ := h.inv
 obtain rfl := h.inv0
 obtain rfl := h0
 obtain rfl := h1
 exact rfl
abbrev R104 : Type := Int × (List Int) × Bool
def f104 (w : World) (x : R104) : List (Lf w) := [.int .u64 x.1, .row .u8 x.2.1, .bool x.2.2]
theorem fz104 (w : World) : SizedF (f104 w) 3 := fun _ => rfl
theorem inv104 {w : World} {T : Pool} {ms : List Value} {x : R104} (h : HLs T ms (f104 w x)) : ∃ A1 n1 c1, ms = ([.int .u64 x.1] : List Value) ++ (([.slice A1 n1 c1] : List Value) ++ ([.bool x.2.2] : List Value)) ∧ HB w T A1 n1 c1 (iv .u8 x.2.1) x.2.1.length := by
 obtain ⟨v0, vs0, rfl, h0, h⟩ := h.inv
 obtain ⟨v1, vs1, rfl, h1, h⟩ := h.inv
 obtain ⟨v2, vs2, rfl, h2, h⟩ := h.inv
 obtain rfl := h.inv0
 obtain rfl := h0
 obtain ⟨A1, n1, c1, rfl, k1⟩ := h1
 obtain rfl := h2
 exact ⟨A1, n1, c1, rfl, k1⟩
def tab1 : List Int := [0, 4, 8, 12, 1, 5, 9, 13, 2, 6, 10, 14, 3, 7, 11, 15, 0, 5, 10, 15, 1, 6, 11, 12, 2, 7, 8, 13, 3, 4, 9, 14]
theorem tab1_len : tab1.length = 32 := rfl
def tab0 : List Int := [1116352408, 1899447441, 3049323471, 3921009573, 961987163, 1508970993, 2453635748, 2870763221, 3624381080, 310598401, 607225278, 1426881987, 1925078388, 2162078206, 2614888103, 3248222580, 3835390401, 4022224774, 264347078, 604807628, 770255983, 1249150122, 1555081692, 1996064986, 2554220882, 2821834349, 2952996808, 3210313671, 3336571891, 3584528711, 113926993, 338241895, 666307205, 773529912, 1294757372, 1396182291, 1695183700, 1986661051, 2177026350, 2456956037, 2730485921, 2820302411, 3259730800, 3345764771, 3516065817, 3600352804, 4094571909, 275423344, 430227734, 506948616, 659060556, 883997877, 958139571, 1322822218, 1537002063, 1747873779, 1955562222, 2024104815, 2227730452, 2361852424, 2428436474, 2756734187, 3204031479, 3329325298]
theorem tab0_len : tab0.length = 64 := rfl
abbrev R145 : Type := Int × ByteArray
def f145 (w : World) (x : R145) : List (Lf w) := [.int .i64 x.1, .str x.2]
theorem fz145 (w : World) : SizedF (f145 w) 2 := fun _ => rfl
theorem inv145 {w : World} {T : Pool} {ms : List Value} {x : R145} (h : HLs T ms (f145 w x)) : ms = ([.int .i64 x.1] : List Value) ++ ([.string x.2] : List Value) := by
 obtain ⟨v0, vs0, rfl, h0, h⟩ := h.inv
 obtain ⟨v1, vs1, rfl, h1, h⟩ := h.inv
 obtain rfl := h.inv0
 obtain rfl := h0
 obtain rfl := h1
 exact rfl
abbrev R160 : Type := Int × Int
def f160 (w : World) (x : R160) : List (Lf w) := [.int .i64 x.1, .int .i64 x.2]
theorem fz160 (w : World) : SizedF (f160 w) 2 := fun _ => rfl
theorem inv160 {w : World} {T : Pool} {ms : List Value} {x : R160} (h : HLs T ms (f160 w x)) : ms = ([.int .i64 x.1] : List Value) ++ ([.int .i64 x.2] : List Value) := by
 obtain ⟨v0, vs0, rfl, h0, h⟩ := h.inv
 obtain ⟨v1, vs1, rfl, h1, h⟩ := h.inv
 obtain rfl := h.inv0
 obtain rfl := h0
 obtain rfl := h1
 exact rfl
abbrev R116 : Type := Int × ByteArray
def f116 (w : World) (x : R116) : List (Lf w) := [.int .u64 x.1, .str x.2]
theorem fz116 (w : World) : SizedF (f116 w) 2 := fun _ => rfl
theorem inv116 {w : World} {T : Pool} {ms : List Value} {x : R116} (h : HLs T ms (f116 w x)) : ms = ([.int .u64 x.1] : List Value) ++ ([.string x.2] : List Value) := by
 obtain ⟨v0, vs0, rfl, h0, h⟩ := h.inv
 obtain ⟨v1, vs1, rfl, h1, h⟩ := h.inv
 obtain rfl := h.inv0
 obtain rfl := h0
 obtain rfl := h1
 exact rfl
abbrev R118 : Type := Int × ByteArray × Bool
def f118 (w : World) (x : R118) : List (Lf w) := [.int .u64 x.1, .str x.2.1, .bool x.2.2]
theorem fz118 (w : World) : SizedF (f118 w) 3 := fun _ => rfl
theorem inv118 {w : World} {T : Pool} {ms : List Value} {x : R118} (h : HLs T ms (f118 w x)) : ms = ([.int .u64 x.1] : List Value) ++ (([.string x.2.1] : List Value) ++ ([.bool x.2.2] : List Value)) := by
 obtain ⟨v0, vs0, rfl, h0, h⟩ := h.inv
 obtain ⟨v1, vs1, rfl, h1, h⟩ := h.inv
 obtain ⟨v2, vs2, rfl, h2, h⟩ := h.inv
 obtain rfl := h.inv0
 obtain rfl := h0
 obtain rfl := h1
 obtain rfl := h2
 exact rfl
abbrev R9 : Type := ByteArray
def f9 (w : World) (x : R9) : List (Lf w) := [.str x]
theorem fz9 (w : World) : SizedF (f9 w) 1 := fun _ => rfl
theorem inv9 {w : World} {T : Pool} {ms : List Value} {x : R9} (h : HLs T ms (f9 w x)) : ms = ([.string x] : List Value) := by
 obtain ⟨v0, vs0, rfl, h0, h⟩ := h.inv
 obtain rfl := h.inv0
 obtain rfl := h0
 exact rfl
theorem plc95 : placesB Tryd.prog 95 [(0, 1), (1, 1), (2, 1), (3, 1), (4, 1)] = true := by kernel_rfl
theorem zero95 : ZeroT Tryd.prog 95 (([.slice none 0 0] : List Value) ++ (([.slice none 0 0] : List Value) ++ (([.int .i64 0] : List Value) ++ (([.bool false] : List Value) ++ ([.slice none 0 0] : List Value))))) := ZeroT.of (by kernel_rfl)
theorem fld95_0 : fieldB Tryd.prog 95 0 76 0 1 = true := by kernel_rfl
theorem nagg76 : OneCell Tryd.prog 76 := OneCell.of Tryd.underlying76 rfl
theorem elem5 : ElemT Tryd.prog 5 (.int .u8 0) 1 := ElemT.of (by kernel_rfl) rfl (by decide)
theorem elem25 : ElemT Tryd.prog 25 (.slice none 0 0) 24 := ElemT.of (by kernel_rfl) rfl (by decide)
theorem elemS25 : ElemS Tryd.prog 25 (.slice none 0 0) 1 24 := ElemS.of (by kernel_rfl) rfl (by decide)
theorem cells76 : Tryd.prog.cellsOf 76 = 1 := by kernel_rfl
theorem ent11 : Ent Tryd.prog 11 := Ent.of Tryd.func11 (by kernel_rfl) (by kernel_rfl)
theorem cells5 : Tryd.prog.cellsOf 5 = 1 := by kernel_rfl
theorem arr23 : ArrT Tryd.prog 23 32 5 .u8 := ArrT.of Tryd.underlying23 Tryd.underlying5 (by kernel_rfl) (by kernel_rfl) (by kernel_rfl)
theorem plc39 : placesB Tryd.prog 39 [(0, 1), (1, 1), (2, 32)] = true := by kernel_rfl
theorem zero39 : ZeroT Tryd.prog 39 (([.int .u64 0] : List Value) ++ (([.int .u64 0] : List Value) ++ iv .u8 (List.replicate 32 (0 : Int)))) := ZeroT.of (by kernel_rfl)
theorem ent35 : Ent Tryd.prog 35 := Ent.of Tryd.func35 (by kernel_rfl) (by kernel_rfl)
theorem row39 : RowT Tryd.prog 39 34 := RowT.of Tryd.underlying39 rfl (by kernel_rfl)
theorem fld39_0 : fieldB Tryd.prog 39 0 37 0 1 = true := by kernel_rfl
theorem nagg37 : OneCell Tryd.prog 37 := OneCell.of Tryd.underlying37 rfl
theorem fld39_1 : fieldB Tryd.prog 39 1 37 1 1 = true := by kernel_rfl
theorem ent36 : Ent Tryd.prog 36 := Ent.of Tryd.func36 (by kernel_rfl) (by kernel_rfl)
theorem plc98 : placesB Tryd.prog 98 [(0, 1), (1, 32), (33, 1), (34, 1), (35, 34), (69, 1), (70, 1)] = true := by kernel_rfl
theorem zero98 : ZeroT Tryd.prog 98 (([.pointer none] : List Value) ++ (iv .u8 (List.replicate 32 (0 : Int)) ++ (([.int .i64 0] : List Value) ++ (([.int .u64 0] : List Value) ++ (([.int .u64 0] : List Value) ++ (([.int .u64 0] : List Value) ++ (iv .u8 (List.replicate 32 (0 : Int)) ++ (([.int .u64 0] : List Value) ++ ([.int .u64 0] : List Value))))))))) := ZeroT.of (by kernel_rfl)
theorem ent12 : Ent Tryd.prog 12 := Ent.of Tryd.func12 (by kernel_rfl) (by kernel_rfl)
theorem plc42 : placesB Tryd.prog 42 [(0, 1), (1, 1)] = true := by kernel_rfl
theorem zero42 : ZeroT Tryd.prog 42 (([.int .u64 0] : List Value) ++ ([.slice none 0 0] : List Value)) := ZeroT.of (by kernel_rfl)
theorem row42 : RowT Tryd.prog 42 2 := RowT.of Tryd.underlying42 rfl (by kernel_rfl)
theorem slr42_3 : ∃ ii z, Tryd.prog.info? 42 = some ii ∧ ii.zero = some z ∧ ii.size = 2 ∧ (Array.range (3 * 2)).map (fun i => z.cells[i % z.cells.size]!) = (([.int .u64 0] : List Value) ++ (([.slice none 0 0] : List Value) ++ (([.int .u64 0] : List Value) ++ (([.slice none 0 0] : List Value) ++ (([.int .u64 0] : List Value) ++ ([.slice none 0 0] : List Value)))))).toArray := ⟨_, _, rfl, rfl, rfl, by kernel_rfl⟩
theorem nagg34 : OneCell Tryd.prog 34 := OneCell.of Tryd.underlying34 rfl
theorem cells42 : Tryd.prog.cellsOf 42 = 2 := by kernel_rfl
theorem fld42_1 : fieldB Tryd.prog 42 1 25 1 1 = true := by kernel_rfl
theorem nagg25 : OneCell Tryd.prog 25 := OneCell.of Tryd.underlying25 rfl
theorem ent58 : Ent Tryd.prog 58 := Ent.of Tryd.func58 (by kernel_rfl) (by kernel_rfl)
theorem ent77 : Ent Tryd.prog 77 := Ent.of Tryd.func77 (by kernel_rfl) (by kernel_rfl)
theorem ent59 : Ent Tryd.prog 59 := Ent.of Tryd.func59 (by kernel_rfl) (by kernel_rfl)
theorem ent48 : Ent Tryd.prog 48 := Ent.of Tryd.func48 (by kernel_rfl) (by kernel_rfl)
theorem cells25 : Tryd.prog.cellsOf 25 = 1 := by kernel_rfl
theorem plc104 : placesB Tryd.prog 104 [(0, 2), (2, 1)] = true := by kernel_rfl
theorem zero104 : ZeroT Tryd.prog 104 (([.int .u64 0] : List Value) ++ (([.slice none 0 0] : List Value) ++ ([.bool false] : List Value))) := ZeroT.of (by kernel_rfl)
theorem slr104_1 : ∃ ii z, Tryd.prog.info? 104 = some ii ∧ ii.zero = some z ∧ ii.size = 3 ∧ (Array.range (1 * 3)).map (fun i => z.cells[i % z.cells.size]!) = (([.int .u64 0] : List Value) ++ (([.slice none 0 0] : List Value) ++ ([.bool false] : List Value))).toArray := ⟨_, _, rfl, rfl, rfl, by kernel_rfl⟩
theorem elemS104 : ElemS Tryd.prog 104 (.agg #[.int .u64 0, .slice none 0 0, .bool false]) 3 40 := ElemS.of (by kernel_rfl) rfl (by decide)
theorem ent38 : Ent Tryd.prog 38 := Ent.of Tryd.func38 (by kernel_rfl) (by kernel_rfl)
theorem fld98_3 : fieldB Tryd.prog 98 3 37 34 1 = true := by kernel_rfl
theorem fld98_4 : fieldB Tryd.prog 98 4 39 35 34 = true := by kernel_rfl
theorem ent16 : Ent Tryd.prog 16 := Ent.of Tryd.func16 (by kernel_rfl) (by kernel_rfl)
theorem fld98_5 : fieldB Tryd.prog 98 5 37 69 1 = true := by kernel_rfl
theorem fld98_6 : fieldB Tryd.prog 98 6 37 70 1 = true := by kernel_rfl
theorem cells104 : Tryd.prog.cellsOf 104 = 3 := by kernel_rfl
theorem row104 : RowT Tryd.prog 104 3 := RowT.of Tryd.underlying104 rfl (by kernel_rfl)
theorem fld98_2 : fieldB Tryd.prog 98 2 3 33 1 = true := by kernel_rfl
theorem nagg3 : OneCell Tryd.prog 3 := OneCell.of Tryd.underlying3 rfl
theorem fld104_0 : fieldB Tryd.prog 104 0 42 0 2 = true := by kernel_rfl
theorem fld104_1 : fieldB Tryd.prog 104 1 4 2 1 = true := by kernel_rfl
theorem nagg4 : OneCell Tryd.prog 4 := OneCell.of Tryd.underlying4 rfl
theorem fld42_0 : fieldB Tryd.prog 42 0 37 0 1 = true := by kernel_rfl
theorem ent60 : Ent Tryd.prog 60 := Ent.of Tryd.func60 (by kernel_rfl) (by kernel_rfl)
theorem ent56 : Ent Tryd.prog 56 := Ent.of Tryd.func56 (by kernel_rfl) (by kernel_rfl)
theorem ent32 : Ent Tryd.prog 32 := Ent.of Tryd.func32 (by kernel_rfl) (by kernel_rfl)
theorem ent74 : Ent Tryd.prog 74 := Ent.of Tryd.func74 (by kernel_rfl) (by kernel_rfl)
theorem ent55 : Ent Tryd.prog 55 := Ent.of Tryd.func55 (by kernel_rfl) (by kernel_rfl)
theorem ent40 : Ent Tryd.prog 40 := Ent.of Tryd.func40 (by kernel_rfl) (by kernel_rfl)
theorem fld98_1 : fieldB Tryd.prog 98 1 23 1 32 = true := by kernel_rfl
theorem row23 : RowT Tryd.prog 23 32 := RowT.of Tryd.underlying23 rfl (by kernel_rfl)
theorem ent61 : Ent Tryd.prog 61 := Ent.of Tryd.func61 (by kernel_rfl) (by kernel_rfl)
theorem arr140 : ArrT Tryd.prog 140 12 5 .u8 := ArrT.of Tryd.underlying140 Tryd.underlying5 (by kernel_rfl) (by kernel_rfl) (by kernel_rfl)
theorem ent63 : Ent Tryd.prog 63 := Ent.of Tryd.func63 (by kernel_rfl) (by kernel_rfl)
theorem nagg24 : OneCell Tryd.prog 24 := OneCell.of Tryd.underlying24 rfl
theorem ent81 : Ent Tryd.prog 81 := Ent.of Tryd.func81 (by kernel_rfl) (by kernel_rfl)
theorem ent72 : Ent Tryd.prog 72 := Ent.of Tryd.func72 (by kernel_rfl) (by kernel_rfl)
theorem arr158 : ArrT Tryd.prog 158 64 5 .u8 := ArrT.of Tryd.underlying158 Tryd.underlying5 (by kernel_rfl) (by kernel_rfl) (by kernel_rfl)
theorem cells24 : Tryd.prog.cellsOf 24 = 1 := by kernel_rfl
theorem arr166 : ArrT Tryd.prog 166 16 24 .u32 := ArrT.of Tryd.underlying166 Tryd.underlying24 (by kernel_rfl) (by kernel_rfl) (by kernel_rfl)
theorem ent93 : Ent Tryd.prog 93 := Ent.of Tryd.func93 (by kernel_rfl) (by kernel_rfl)
theorem nagg5 : OneCell Tryd.prog 5 := OneCell.of Tryd.underlying5 rfl
theorem ent92 : Ent Tryd.prog 92 := Ent.of Tryd.func92 (by kernel_rfl) (by kernel_rfl)
theorem ent89 : Ent Tryd.prog 89 := Ent.of Tryd.func89 (by kernel_rfl) (by kernel_rfl)
theorem ent84 : Ent Tryd.prog 84 := Ent.of Tryd.func84 (by kernel_rfl) (by kernel_rfl)
theorem row170 : RowT Tryd.prog 170 32 := RowT.of Tryd.underlying170 rfl (by kernel_rfl)
theorem row169 : RowT Tryd.prog 169 4 := RowT.of Tryd.underlying169 rfl (by kernel_rfl)
theorem cells3 : Tryd.prog.cellsOf 3 = 1 := by kernel_rfl
theorem arr169 : ArrT Tryd.prog 169 4 3 .i64 := ArrT.of Tryd.underlying169 Tryd.underlying3 (by kernel_rfl) (by kernel_rfl) (by kernel_rfl)
theorem ent86 : Ent Tryd.prog 86 := Ent.of Tryd.func86 (by kernel_rfl) (by kernel_rfl)
theorem ent85 : Ent Tryd.prog 85 := Ent.of Tryd.func85 (by kernel_rfl) (by kernel_rfl)
theorem ent78 : Ent Tryd.prog 78 := Ent.of Tryd.func78 (by kernel_rfl) (by kernel_rfl)
theorem ent62 : Ent Tryd.prog 62 := Ent.of Tryd.func62 (by kernel_rfl) (by kernel_rfl)
theorem ent41 : Ent Tryd.prog 41 := Ent.of Tryd.func41 (by kernel_rfl) (by kernel_rfl)
theorem cells37 : Tryd.prog.cellsOf 37 = 1 := by kernel_rfl
theorem fld39_2 : fieldB Tryd.prog 39 2 23 2 32 = true := by kernel_rfl
theorem arr148 : ArrT Tryd.prog 148 8 24 .u32 := ArrT.of Tryd.underlying148 Tryd.underlying24 (by kernel_rfl) (by kernel_rfl) (by kernel_rfl)
theorem ent71 : Ent Tryd.prog 71 := Ent.of Tryd.func71 (by kernel_rfl) (by kernel_rfl)
theorem arr154 : ArrT Tryd.prog 154 64 24 .u32 := ArrT.of Tryd.underlying154 Tryd.underlying24 (by kernel_rfl) (by kernel_rfl) (by kernel_rfl)
theorem ent83 : Ent Tryd.prog 83 := Ent.of Tryd.func83 (by kernel_rfl) (by kernel_rfl)
theorem ent82 : Ent Tryd.prog 82 := Ent.of Tryd.func82 (by kernel_rfl) (by kernel_rfl)
theorem arr134 : ArrT Tryd.prog 134 8 24 .u32 := ArrT.of Tryd.underlying134 Tryd.underlying24 (by kernel_rfl) (by kernel_rfl) (by kernel_rfl)
theorem ent73 : Ent Tryd.prog 73 := Ent.of Tryd.func73 (by kernel_rfl) (by kernel_rfl)
theorem ent54 : Ent Tryd.prog 54 := Ent.of Tryd.func54 (by kernel_rfl) (by kernel_rfl)
theorem ent31 : Ent Tryd.prog 31 := Ent.of Tryd.func31 (by kernel_rfl) (by kernel_rfl)
theorem ent9 : Ent Tryd.prog 9 := Ent.of Tryd.func9 (by kernel_rfl) (by kernel_rfl)
theorem fld98_0 : fieldB Tryd.prog 98 0 30 0 1 = true := by kernel_rfl
theorem nagg30 : OneCell Tryd.prog 30 := OneCell.of Tryd.underlying30 rfl
theorem fld95_3 : fieldB Tryd.prog 95 3 4 3 1 = true := by kernel_rfl
theorem ent64 : Ent Tryd.prog 64 := Ent.of Tryd.func64 (by kernel_rfl) (by kernel_rfl)
theorem fld95_2 : fieldB Tryd.prog 95 2 3 2 1 = true := by kernel_rfl
theorem cells4 : Tryd.prog.cellsOf 4 = 1 := by kernel_rfl
theorem fld95_1 : fieldB Tryd.prog 95 1 93 1 1 = true := by kernel_rfl
theorem nagg93 : OneCell Tryd.prog 93 := OneCell.of Tryd.underlying93 rfl
theorem plc124 : placesB Tryd.prog 124 [(0, 1), (1, 1)] = true := by kernel_rfl
theorem zero124 : ZeroT Tryd.prog 124 (([.int .i64 0] : List Value) ++ ([.slice none 0 0] : List Value)) := ZeroT.of (by kernel_rfl)
theorem slr124_1 : ∃ ii z, Tryd.prog.info? 124 = some ii ∧ ii.zero = some z ∧ ii.size = 2 ∧ (Array.range (1 * 2)).map (fun i => z.cells[i % z.cells.size]!) = (([.int .i64 0] : List Value) ++ ([.slice none 0 0] : List Value)).toArray := ⟨_, _, rfl, rfl, rfl, by kernel_rfl⟩
theorem elemS124 : ElemS Tryd.prog 124 (.agg #[.int .i64 0, .slice none 0 0]) 2 32 := ElemS.of (by kernel_rfl) rfl (by decide)
theorem cells93 : Tryd.prog.cellsOf 93 = 1 := by kernel_rfl
theorem fld95_4 : fieldB Tryd.prog 95 4 43 4 1 = true := by kernel_rfl
theorem nagg43 : OneCell Tryd.prog 43 := OneCell.of Tryd.underlying43 rfl
theorem plc48 : placesB Tryd.prog 48 [(0, 1), (1, 1)] = true := by kernel_rfl
theorem zero48 : ZeroT Tryd.prog 48 (([.int .i64 0] : List Value) ++ ([.int .i64 0] : List Value)) := ZeroT.of (by kernel_rfl)
theorem slr48_1 : ∃ ii z, Tryd.prog.info? 48 = some ii ∧ ii.zero = some z ∧ ii.size = 2 ∧ (Array.range (1 * 2)).map (fun i => z.cells[i % z.cells.size]!) = (([.int .i64 0] : List Value) ++ ([.int .i64 0] : List Value)).toArray := ⟨_, _, rfl, rfl, rfl, by kernel_rfl⟩
theorem elemS48 : ElemS Tryd.prog 48 (.agg #[.int .i64 0, .int .i64 0]) 2 16 := ElemS.of (by kernel_rfl) rfl (by decide)
theorem cells43 : Tryd.prog.cellsOf 43 = 1 := by kernel_rfl
theorem ent42 : Ent Tryd.prog 42 := Ent.of Tryd.func42 (by kernel_rfl) (by kernel_rfl)
theorem ent39 : Ent Tryd.prog 39 := Ent.of Tryd.func39 (by kernel_rfl) (by kernel_rfl)
theorem ent14 : Ent Tryd.prog 14 := Ent.of Tryd.func14 (by kernel_rfl) (by kernel_rfl)
theorem slr42_1 : ∃ ii z, Tryd.prog.info? 42 = some ii ∧ ii.zero = some z ∧ ii.size = 2 ∧ (Array.range (1 * 2)).map (fun i => z.cells[i % z.cells.size]!) = (([.int .u64 0] : List Value) ++ ([.slice none 0 0] : List Value)).toArray := ⟨_, _, rfl, rfl, rfl, by kernel_rfl⟩
theorem ent15 : Ent Tryd.prog 15 := Ent.of Tryd.func15 (by kernel_rfl) (by kernel_rfl)
theorem ent25 : Ent Tryd.prog 25 := Ent.of Tryd.func25 (by kernel_rfl) (by kernel_rfl)
theorem eqs39 : eqsB Tryd.prog 39 [(37, 0), (37, 1), (23, 2)] = true := by kernel_rfl
theorem eqg39 : Tryd.prog.eqGuardType Tryd.prog.depth 39 = false := by kernel_rfl
theorem ent17 : Ent Tryd.prog 17 := Ent.of Tryd.func17 (by kernel_rfl) (by kernel_rfl)
theorem ent30 : Ent Tryd.prog 30 := Ent.of Tryd.func30 (by kernel_rfl) (by kernel_rfl)
theorem eqg23 : Tryd.prog.eqGuardType Tryd.prog.depth 23 = false := by kernel_rfl
theorem ent8 : Ent Tryd.prog 8 := Ent.of Tryd.func8 (by kernel_rfl) (by kernel_rfl)
theorem zero57 : ZeroT Tryd.prog 57 (([.int .i64 0] : List Value) ++ (([.slice none 0 0] : List Value) ++ (([.slice none 0 0] : List Value) ++ (([.int .i64 0] : List Value) ++ (([.bool false] : List Value) ++ ([.slice none 0 0] : List Value)))))) := ZeroT.of (by kernel_rfl)
theorem plc57 : placesB Tryd.prog 57 [(0, 1), (1, 1), (2, 1), (3, 1), (4, 1), (5, 1)] = true := by kernel_rfl
theorem row57 : RowT Tryd.prog 57 6 := RowT.of Tryd.underlying57 rfl (by kernel_rfl)
theorem ent18 : Ent Tryd.prog 18 := Ent.of Tryd.func18 (by kernel_rfl) (by kernel_rfl)
theorem zero60 : ZeroT Tryd.prog 60 (([.int .u64 0] : List Value) ++ (([.int .u64 0] : List Value) ++ iv .u8 (List.replicate 32 (0 : Int)))) := ZeroT.of (by kernel_rfl)
theorem plc60 : placesB Tryd.prog 60 [(0, 1), (1, 1), (2, 32)] = true := by kernel_rfl
theorem row60 : RowT Tryd.prog 60 34 := RowT.of Tryd.underlying60 rfl (by kernel_rfl)
theorem ent23 : Ent Tryd.prog 23 := Ent.of Tryd.func23 (by kernel_rfl) (by kernel_rfl)
theorem zero62 : ZeroT Tryd.prog 62 (iv .u8 (List.replicate 32 (0 : Int)) ++ (([.int .i64 0] : List Value) ++ (([.int .u64 0] : List Value) ++ (([.int .u64 0] : List Value) ++ (([.int .u64 0] : List Value) ++ (iv .u8 (List.replicate 32 (0 : Int)) ++ (([.int .u64 0] : List Value) ++ ([.int .u64 0] : List Value)))))))) := ZeroT.of (by kernel_rfl)
theorem plc62 : placesB Tryd.prog 62 [(0, 32), (32, 1), (33, 1), (34, 34), (68, 1), (69, 1)] = true := by kernel_rfl
theorem row62 : RowT Tryd.prog 62 70 := RowT.of Tryd.underlying62 rfl (by kernel_rfl)
theorem fld60_0 : fieldB Tryd.prog 60 0 37 0 1 = true := by kernel_rfl
theorem fld60_1 : fieldB Tryd.prog 60 1 37 1 1 = true := by kernel_rfl
theorem ent19 : Ent Tryd.prog 19 := Ent.of Tryd.func19 (by kernel_rfl) (by kernel_rfl)
theorem plc81 : placesB Tryd.prog 81 [(0, 6), (6, 70), (76, 34), (110, 34)] = true := by kernel_rfl
theorem zero81 : ZeroT Tryd.prog 81 (([.int .i64 0] : List Value) ++ (([.slice none 0 0] : List Value) ++ (([.slice none 0 0] : List Value) ++ (([.int .i64 0] : List Value) ++ (([.bool false] : List Value) ++ (([.slice none 0 0] : List Value) ++ (iv .u8 (List.replicate 32 (0 : Int)) ++ (([.int .i64 0] : List Value) ++ (([.int .u64 0] : List Value) ++ (([.int .u64 0] : List Value) ++ (([.int .u64 0] : List Value) ++ (iv .u8 (List.replicate 32 (0 : Int)) ++ (([.int .u64 0] : List Value) ++ (([.int .u64 0] : List Value) ++ (([.int .u64 0] : List Value) ++ (([.int .u64 0] : List Value) ++ (iv .u8 (List.replicate 32 (0 : Int)) ++ (([.int .u64 0] : List Value) ++ (([.int .u64 0] : List Value) ++ iv .u8 (List.replicate 32 (0 : Int))))))))))))))))))))) := ZeroT.of (by kernel_rfl)
theorem row81 : RowT Tryd.prog 81 144 := RowT.of Tryd.underlying81 rfl (by kernel_rfl)
theorem cells84 : Tryd.prog.cellsOf 84 = 40 := by kernel_rfl
theorem fld84_1 : fieldB Tryd.prog 84 1 40 1 1 = true := by kernel_rfl
theorem nagg40 : OneCell Tryd.prog 40 := OneCell.of Tryd.underlying40 rfl
theorem row84 : RowT Tryd.prog 84 40 := RowT.of Tryd.underlying84 rfl (by kernel_rfl)
theorem fld84_0 : fieldB Tryd.prog 84 0 3 0 1 = true := by kernel_rfl
theorem fld84_2 : fieldB Tryd.prog 84 2 4 2 1 = true := by kernel_rfl
theorem elemS42 : ElemS Tryd.prog 42 (.agg #[.int .u64 0, .slice none 0 0]) 2 32 := ElemS.of (by kernel_rfl) rfl (by decide)
theorem ent20 : Ent Tryd.prog 20 := Ent.of Tryd.func20 (by kernel_rfl) (by kernel_rfl)
theorem fld81_0 : fieldB Tryd.prog 81 0 57 0 6 = true := by kernel_rfl
theorem fld81_1 : fieldB Tryd.prog 81 1 62 6 70 = true := by kernel_rfl
theorem plc116 : placesB Tryd.prog 116 [(0, 1), (1, 1)] = true := by kernel_rfl
theorem zero116 : ZeroT Tryd.prog 116 (([.int .u64 0] : List Value) ++ ([.string ByteArray.empty] : List Value)) := ZeroT.of (by kernel_rfl)
theorem slr116_1 : ∃ ii z, Tryd.prog.info? 116 = some ii ∧ ii.zero = some z ∧ ii.size = 2 ∧ (Array.range (1 * 2)).map (fun i => z.cells[i % z.cells.size]!) = (([.int .u64 0] : List Value) ++ ([.string ByteArray.empty] : List Value)).toArray := ⟨_, _, rfl, rfl, rfl, by kernel_rfl⟩
theorem elemS116 : ElemS Tryd.prog 116 (.agg #[.int .u64 0, .string ByteArray.empty]) 2 24 := ElemS.of (by kernel_rfl) rfl (by decide)
theorem ent22 : Ent Tryd.prog 22 := Ent.of Tryd.func22 (by kernel_rfl) (by kernel_rfl)
theorem cells116 : Tryd.prog.cellsOf 116 = 2 := by kernel_rfl
theorem fld116_1 : fieldB Tryd.prog 116 1 9 1 1 = true := by kernel_rfl
theorem nagg9 : OneCell Tryd.prog 9 := OneCell.of Tryd.underlying9 rfl
theorem row116 : RowT Tryd.prog 116 2 := RowT.of Tryd.underlying116 rfl (by kernel_rfl)
theorem plc118 : placesB Tryd.prog 118 [(0, 2), (2, 1)] = true := by kernel_rfl
theorem zero118 : ZeroT Tryd.prog 118 (([.int .u64 0] : List Value) ++ (([.string ByteArray.empty] : List Value) ++ ([.bool false] : List Value))) := ZeroT.of (by kernel_rfl)
theorem slr118_1 : ∃ ii z, Tryd.prog.info? 118 = some ii ∧ ii.zero = some z ∧ ii.size = 3 ∧ (Array.range (1 * 3)).map (fun i => z.cells[i % z.cells.size]!) = (([.int .u64 0] : List Value) ++ (([.string ByteArray.empty] : List Value) ++ ([.bool false] : List Value))).toArray := ⟨_, _, rfl, rfl, rfl, by kernel_rfl⟩
theorem elemS118 : ElemS Tryd.prog 118 (.agg #[.int .u64 0, .string ByteArray.empty, .bool false]) 3 32 := ElemS.of (by kernel_rfl) rfl (by decide)
theorem ent43 : Ent Tryd.prog 43 := Ent.of Tryd.func43 (by kernel_rfl) (by kernel_rfl)
theorem fld62_2 : fieldB Tryd.prog 62 2 37 33 1 = true := by kernel_rfl
theorem fld62_3 : fieldB Tryd.prog 62 3 60 34 34 = true := by kernel_rfl
theorem fld62_4 : fieldB Tryd.prog 62 4 37 68 1 = true := by kernel_rfl
theorem fld62_5 : fieldB Tryd.prog 62 5 37 69 1 = true := by kernel_rfl
theorem fld62_1 : fieldB Tryd.prog 62 1 3 32 1 = true := by kernel_rfl
theorem cells118 : Tryd.prog.cellsOf 118 = 3 := by kernel_rfl
theorem row118 : RowT Tryd.prog 118 3 := RowT.of Tryd.underlying118 rfl (by kernel_rfl)
theorem fld118_0 : fieldB Tryd.prog 118 0 116 0 2 = true := by kernel_rfl
theorem fld118_1 : fieldB Tryd.prog 118 1 4 2 1 = true := by kernel_rfl
theorem fld116_0 : fieldB Tryd.prog 116 0 37 0 1 = true := by kernel_rfl
theorem ent33 : Ent Tryd.prog 33 := Ent.of Tryd.func33 (by kernel_rfl) (by kernel_rfl)
theorem ent44 : Ent Tryd.prog 44 := Ent.of Tryd.func44 (by kernel_rfl) (by kernel_rfl)
theorem fld62_0 : fieldB Tryd.prog 62 0 23 0 32 = true := by kernel_rfl
theorem ent66 : Ent Tryd.prog 66 := Ent.of Tryd.func66 (by kernel_rfl) (by kernel_rfl)
theorem ent90 : Ent Tryd.prog 90 := Ent.of Tryd.func90 (by kernel_rfl) (by kernel_rfl)
theorem ent87 : Ent Tryd.prog 87 := Ent.of Tryd.func87 (by kernel_rfl) (by kernel_rfl)
theorem ent91 : Ent Tryd.prog 91 := Ent.of Tryd.func91 (by kernel_rfl) (by kernel_rfl)
theorem ent88 : Ent Tryd.prog 88 := Ent.of Tryd.func88 (by kernel_rfl) (by kernel_rfl)
theorem ent79 : Ent Tryd.prog 79 := Ent.of Tryd.func79 (by kernel_rfl) (by kernel_rfl)
theorem ent65 : Ent Tryd.prog 65 := Ent.of Tryd.func65 (by kernel_rfl) (by kernel_rfl)
theorem ent45 : Ent Tryd.prog 45 := Ent.of Tryd.func45 (by kernel_rfl) (by kernel_rfl)
theorem fld57_4 : fieldB Tryd.prog 57 4 4 4 1 = true := by kernel_rfl
theorem fld57_0 : fieldB Tryd.prog 57 0 3 0 1 = true := by kernel_rfl
theorem ent67 : Ent Tryd.prog 67 := Ent.of Tryd.func67 (by kernel_rfl) (by kernel_rfl)
theorem fld57_3 : fieldB Tryd.prog 57 3 3 3 1 = true := by kernel_rfl
theorem fld57_2 : fieldB Tryd.prog 57 2 54 2 1 = true := by kernel_rfl
theorem nagg54 : OneCell Tryd.prog 54 := OneCell.of Tryd.underlying54 rfl
theorem plc145 : placesB Tryd.prog 145 [(0, 1), (1, 1)] = true := by kernel_rfl
theorem zero145 : ZeroT Tryd.prog 145 (([.int .i64 0] : List Value) ++ ([.string ByteArray.empty] : List Value)) := ZeroT.of (by kernel_rfl)
theorem elemS145 : ElemS Tryd.prog 145 (.agg #[.int .i64 0, .string ByteArray.empty]) 2 24 := ElemS.of (by kernel_rfl) rfl (by decide)
theorem row145 : RowT Tryd.prog 145 2 := RowT.of Tryd.underlying145 rfl (by kernel_rfl)
theorem slr145_1 : ∃ ii z, Tryd.prog.info? 145 = some ii ∧ ii.zero = some z ∧ ii.size = 2 ∧ (Array.range (1 * 2)).map (fun i => z.cells[i % z.cells.size]!) = (([.int .i64 0] : List Value) ++ ([.string ByteArray.empty] : List Value)).toArray := ⟨_, _, rfl, rfl, rfl, by kernel_rfl⟩
theorem ent68 : Ent Tryd.prog 68 := Ent.of Tryd.func68 (by kernel_rfl) (by kernel_rfl)
theorem cells54 : Tryd.prog.cellsOf 54 = 1 := by kernel_rfl
theorem fld57_5 : fieldB Tryd.prog 57 5 55 5 1 = true := by kernel_rfl
theorem nagg55 : OneCell Tryd.prog 55 := OneCell.of Tryd.underlying55 rfl
theorem elemS160 : ElemS Tryd.prog 160 (.agg #[.int .i64 0, .int .i64 0]) 2 16 := ElemS.of (by kernel_rfl) rfl (by decide)
theorem plc160 : placesB Tryd.prog 160 [(0, 1), (1, 1)] = true := by kernel_rfl
theorem zero160 : ZeroT Tryd.prog 160 (([.int .i64 0] : List Value) ++ ([.int .i64 0] : List Value)) := ZeroT.of (by kernel_rfl)
theorem slr160_1 : ∃ ii z, Tryd.prog.info? 160 = some ii ∧ ii.zero = some z ∧ ii.size = 2 ∧ (Array.range (1 * 2)).map (fun i => z.cells[i % z.cells.size]!) = (([.int .i64 0] : List Value) ++ ([.int .i64 0] : List Value)).toArray := ⟨_, _, rfl, rfl, rfl, by kernel_rfl⟩
theorem cells55 : Tryd.prog.cellsOf 55 = 1 := by kernel_rfl
theorem ent69 : Ent Tryd.prog 69 := Ent.of Tryd.func69 (by kernel_rfl) (by kernel_rfl)
theorem ent46 : Ent Tryd.prog 46 := Ent.of Tryd.func46 (by kernel_rfl) (by kernel_rfl)
theorem fld60_2 : fieldB Tryd.prog 60 2 23 2 32 = true := by kernel_rfl
theorem ent75 : Ent Tryd.prog 75 := Ent.of Tryd.func75 (by kernel_rfl) (by kernel_rfl)
theorem ent76 : Ent Tryd.prog 76 := Ent.of Tryd.func76 (by kernel_rfl) (by kernel_rfl)
theorem ent57 : Ent Tryd.prog 57 := Ent.of Tryd.func57 (by kernel_rfl) (by kernel_rfl)
theorem ent34 : Ent Tryd.prog 34 := Ent.of Tryd.func34 (by kernel_rfl) (by kernel_rfl)
theorem ent10 : Ent Tryd.prog 10 := Ent.of Tryd.func10 (by kernel_rfl) (by kernel_rfl)
theorem ent21 : Ent Tryd.prog 21 := Ent.of Tryd.func21 (by kernel_rfl) (by kernel_rfl)
theorem fld81_2 : fieldB Tryd.prog 81 2 39 76 34 = true := by kernel_rfl
theorem fld81_3 : fieldB Tryd.prog 81 3 60 110 34 = true := by kernel_rfl
theorem eqs60 : eqsB Tryd.prog 60 [(37, 0), (37, 1), (23, 2)] = true := by kernel_rfl
theorem eqg60 : Tryd.prog.eqGuardType Tryd.prog.depth 60 = false := by kernel_rfl
theorem fld84_4 : fieldB Tryd.prog 84 4 37 37 1 = true := by kernel_rfl
theorem ent49 : Ent Tryd.prog 49 := Ent.of Tryd.func49 (by kernel_rfl) (by kernel_rfl)
theorem fld84_3 : fieldB Tryd.prog 84 3 39 3 34 = true := by kernel_rfl
theorem fld84_5 : fieldB Tryd.prog 84 5 3 38 1 = true := by kernel_rfl
theorem ent50 : Ent Tryd.prog 50 := Ent.of Tryd.func50 (by kernel_rfl) (by kernel_rfl)
theorem ent51 : Ent Tryd.prog 51 := Ent.of Tryd.func51 (by kernel_rfl) (by kernel_rfl)
theorem fld84_6 : fieldB Tryd.prog 84 6 82 39 1 = true := by kernel_rfl
theorem nagg82 : OneCell Tryd.prog 82 := OneCell.of Tryd.underlying82 rfl
theorem cells124 : Tryd.prog.cellsOf 124 = 2 := by kernel_rfl
theorem row124 : RowT Tryd.prog 124 2 := RowT.of Tryd.underlying124 rfl (by kernel_rfl)
theorem fld124_0 : fieldB Tryd.prog 124 0 3 0 1 = true := by kernel_rfl
theorem fld124_1 : fieldB Tryd.prog 124 1 25 1 1 = true := by kernel_rfl
theorem ent52 : Ent Tryd.prog 52 := Ent.of Tryd.func52 (by kernel_rfl) (by kernel_rfl)
theorem fld57_1 : fieldB Tryd.prog 57 1 54 1 1 = true := by kernel_rfl
theorem cells145 : Tryd.prog.cellsOf 145 = 2 := by kernel_rfl
theorem ent53 : Ent Tryd.prog 53 := Ent.of Tryd.func53 (by kernel_rfl) (by kernel_rfl)
theorem ent28 : Ent Tryd.prog 28 := Ent.of Tryd.func28 (by kernel_rfl) (by kernel_rfl)
theorem ent29 : Ent Tryd.prog 29 := Ent.of Tryd.func29 (by kernel_rfl) (by kernel_rfl)
theorem ent27 : Ent Tryd.prog 27 := Ent.of Tryd.func27 (by kernel_rfl) (by kernel_rfl)
theorem fld145_0 : fieldB Tryd.prog 145 0 3 0 1 = true := by kernel_rfl
theorem fld145_1 : fieldB Tryd.prog 145 1 9 1 1 = true := by kernel_rfl
theorem ent80 : Ent Tryd.prog 80 := Ent.of Tryd.func80 (by kernel_rfl) (by kernel_rfl)
theorem ent70 : Ent Tryd.prog 70 := Ent.of Tryd.func70 (by kernel_rfl) (by kernel_rfl)
theorem elem9 : ElemT Tryd.prog 9 (.string ByteArray.empty) 16 := ElemT.of (by kernel_rfl) rfl (by decide)
theorem elemS9 : ElemS Tryd.prog 9 (.string ByteArray.empty) 1 16 := ElemS.of (by kernel_rfl) rfl (by decide)
theorem ent47 : Ent Tryd.prog 47 := Ent.of Tryd.func47 (by kernel_rfl) (by kernel_rfl)
theorem ent37 : Ent Tryd.prog 37 := Ent.of Tryd.func37 (by kernel_rfl) (by kernel_rfl)
theorem ent13 : Ent Tryd.prog 13 := Ent.of Tryd.func13 (by kernel_rfl) (by kernel_rfl)
theorem cells9 : Tryd.prog.cellsOf 9 = 1 := by kernel_rfl
theorem ent24 : Ent Tryd.prog 24 := Ent.of Tryd.func24 (by kernel_rfl) (by kernel_rfl)
theorem wide : Tryd.prog.follows .mixedOrders = true := by kernel_rfl
end Go.Proofs.YtmhcjafkdmcgoaaDoor
