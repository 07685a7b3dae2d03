/- Walks: each function computes what its relation says, and a call of it ends so. Printed by a program of this session (wip/gen). -/
import Derived.Test.YtjilndiemfhapaaGx2
namespace Go.Proofs.Ytjilndiemfhapaa
open Go Go.Kr Go.RowKit
set_option linter.unusedVariables false
set_option linter.unusedSimpArgs false
/-! ### reliquarylaw15_BuffersPlays: function 5 -/
def reliquarylaw15_BuffersPlays.L2 (x_64 : Int) (a_128_0 : Int) (l_132_1 : List R51) (a_153_0 : Int) (l_157_1 : List R60) (l_165 : List Int) (K_L1 : (List R60) → Int → (List R51) → Int → Bool → Int → Prop) : Nat → Bool → Int → Prop
 | 0, _, _ => False
 | kL2 + 1, b_178, x_179 => ((x_179 < (l_165.length : Int) ∧ ((0 ≤ x_179 ∧ x_179 < (l_165.length : Int)) ∧ ((0 ≤ x_179 ∧ x_179 < (l_132_1.length : Int)) ∧ (¬ ((gn l_165 (x_179.toNat)) ≠ ((gx l_132_1 (x_179.toNat)).1)) ∧ reliquarylaw15_BuffersPlays.L2 x_64 a_128_0 l_132_1 a_153_0 l_157_1 l_165 K_L1 kL2 b_178 (IntKind.i64.wrap (x_179 + 1)))))) ∨ (¬ (x_179 < (l_165.length : Int)) ∧ K_L1 l_157_1 a_128_0 l_132_1 a_153_0 b_178 (IntKind.i64.wrap (x_64 + 1))))
def reliquarylaw15_BuffersPlays.L3 (x_64 : Int) (a_229_0 : Int) (l_233_1 : List R51) (a_254_0 : Int) (l_258_1 : List R60) (l_266 : List Int) (K_L1 : (List R60) → Int → (List R51) → Int → Bool → Int → Prop) : Nat → Bool → Int → Prop
 | 0, _, _ => False
 | kL3 + 1, b_279, x_280 => ((x_280 < (l_266.length : Int) ∧ ((0 ≤ x_280 ∧ x_280 < (l_266.length : Int)) ∧ ((0 ≤ x_280 ∧ x_280 < (l_233_1.length : Int)) ∧ (¬ ((gn l_266 (x_280.toNat)) ≠ ((gx l_233_1 (x_280.toNat)).1)) ∧ reliquarylaw15_BuffersPlays.L3 x_64 a_229_0 l_233_1 a_254_0 l_258_1 l_266 K_L1 kL3 b_279 (IntKind.i64.wrap (x_280 + 1)))))) ∨ (¬ (x_280 < (l_266.length : Int)) ∧ K_L1 l_258_1 a_229_0 l_233_1 a_254_0 b_279 (IntKind.i64.wrap (x_64 + 1))))
def reliquarylaw15_BuffersPlays.L4 (x_64 : Int) (a_337_0 : Int) (l_341_1 : List R51) (a_366_0 : Int) (l_370_1 : List R60) (l_378 : List Int) (K_L1 : (List R60) → Int → (List R51) → Int → Bool → Int → Prop) : Nat → Bool → Int → Prop
 | 0, _, _ => False
 | kL4 + 1, b_391, x_392 => ((x_392 < (l_378.length : Int) ∧ ((0 ≤ x_392 ∧ x_392 < (l_378.length : Int)) ∧ ((0 ≤ x_392 ∧ x_392 < (l_341_1.length : Int)) ∧ (¬ ((gn l_378 (x_392.toNat)) ≠ ((gx l_341_1 (x_392.toNat)).1)) ∧ reliquarylaw15_BuffersPlays.L4 x_64 a_337_0 l_341_1 a_366_0 l_370_1 l_378 K_L1 kL4 b_391 (IntKind.i64.wrap (x_392 + 1)))))) ∨ (¬ (x_392 < (l_378.length : Int)) ∧ K_L1 l_370_1 a_337_0 l_341_1 a_366_0 b_391 (IntKind.i64.wrap (x_64 + 1))))
def reliquarylaw15_BuffersPlays.L5 (x_64 : Int) (a_472_0 : Int) (l_476_1 : List R51) (a_501_0 : Int) (l_505_1 : List R60) (l_513 : List Int) (K_L1 : (List R60) → Int → (List R51) → Int → Bool → Int → Prop) : Nat → Bool → Int → Prop
 | 0, _, _ => False
 | kL5 + 1, b_526, x_527 => ((x_527 < (l_513.length : Int) ∧ ((0 ≤ x_527 ∧ x_527 < (l_513.length : Int)) ∧ ((0 ≤ x_527 ∧ x_527 < (l_476_1.length : Int)) ∧ (¬ ((gn l_513 (x_527.toNat)) ≠ ((gx l_476_1 (x_527.toNat)).1)) ∧ reliquarylaw15_BuffersPlays.L5 x_64 a_472_0 l_476_1 a_501_0 l_505_1 l_513 K_L1 kL5 b_526 (IntKind.i64.wrap (x_527 + 1)))))) ∨ (¬ (x_527 < (l_513.length : Int)) ∧ K_L1 l_505_1 a_472_0 l_476_1 a_501_0 b_526 (IntKind.i64.wrap (x_64 + 1))))
def reliquarylaw15_BuffersPlays.L6 (x_64 : Int) (a_600_0 : Int) (l_604_1 : List R51) (a_625_0 : Int) (l_629_1 : List R60) (l_637 : List Int) (K_L1 : (List R60) → Int → (List R51) → Int → Bool → Int → Prop) : Nat → Bool → Int → Prop
 | 0, _, _ => False
 | kL6 + 1, b_650, x_651 => ((x_651 < (l_637.length : Int) ∧ ((0 ≤ x_651 ∧ x_651 < (l_637.length : Int)) ∧ ((0 ≤ x_651 ∧ x_651 < (l_604_1.length : Int)) ∧ (¬ ((gn l_637 (x_651.toNat)) ≠ ((gx l_604_1 (x_651.toNat)).1)) ∧ reliquarylaw15_BuffersPlays.L6 x_64 a_600_0 l_604_1 a_625_0 l_629_1 l_637 K_L1 kL6 b_650 (IntKind.i64.wrap (x_651 + 1)))))) ∨ (¬ (x_651 < (l_637.length : Int)) ∧ K_L1 l_629_1 a_600_0 l_604_1 a_625_0 b_650 (IntKind.i64.wrap (x_64 + 1))))
def reliquarylaw15_BuffersPlays.L7 (x_64 : Int) (a_701_0 : Int) (l_705_1 : List R51) (a_726_0 : Int) (l_730_1 : List R60) (l_738 : List Int) (K_L1 : (List R60) → Int → (List R51) → Int → Bool → Int → Prop) : Nat → Bool → Int → Prop
 | 0, _, _ => False
 | kL7 + 1, b_751, x_752 => ((x_752 < (l_738.length : Int) ∧ ((0 ≤ x_752 ∧ x_752 < (l_738.length : Int)) ∧ ((0 ≤ x_752 ∧ x_752 < (l_705_1.length : Int)) ∧ (¬ ((gn l_738 (x_752.toNat)) ≠ ((gx l_705_1 (x_752.toNat)).1)) ∧ reliquarylaw15_BuffersPlays.L7 x_64 a_701_0 l_705_1 a_726_0 l_730_1 l_738 K_L1 kL7 b_751 (IntKind.i64.wrap (x_752 + 1)))))) ∨ (¬ (x_752 < (l_738.length : Int)) ∧ K_L1 l_730_1 a_701_0 l_705_1 a_726_0 b_751 (IntKind.i64.wrap (x_64 + 1))))
def reliquarylaw15_BuffersPlays.L8 (x_64 : Int) (a_802_0 : Int) (l_806_1 : List R51) (a_827_0 : Int) (l_831_1 : List R60) (l_839 : List Int) (K_L1 : (List R60) → Int → (List R51) → Int → Bool → Int → Prop) : Nat → Bool → Int → Prop
 | 0, _, _ => False
 | kL8 + 1, b_852, x_853 => ((x_853 < (l_839.length : Int) ∧ ((0 ≤ x_853 ∧ x_853 < (l_839.length : Int)) ∧ ((0 ≤ x_853 ∧ x_853 < (l_806_1.length : Int)) ∧ (¬ ((gn l_839 (x_853.toNat)) ≠ ((gx l_806_1 (x_853.toNat)).1)) ∧ reliquarylaw15_BuffersPlays.L8 x_64 a_802_0 l_806_1 a_827_0 l_831_1 l_839 K_L1 kL8 b_852 (IntKind.i64.wrap (x_853 + 1)))))) ∨ (¬ (x_853 < (l_839.length : Int)) ∧ K_L1 l_831_1 a_802_0 l_806_1 a_827_0 b_852 (IntKind.i64.wrap (x_64 + 1))))
def reliquarylaw15_BuffersPlays.L9 (x_56 : Int) (x_64 : Int) (a_902_0 : Int) (l_906_1 : List R60) (l_914 : List Int) (K_L1 : (List R60) → Int → (List R51) → Int → Bool → Int → Prop) : Nat → Bool → Int → Prop
 | 0, _, _ => False
 | kL9 + 1, b_925, x_926 => (¬ (x_926 < (l_914.length : Int)) ∧ K_L1 l_906_1 x_56 ([] : List R51) a_902_0 b_925 (IntKind.i64.wrap (x_64 + 1)))
def reliquarylaw15_BuffersPlays.L10 (x_56 : Int) (l_60 : List R51) (x_64 : Int) (a_941_0 : Int) (l_945_1 : List R60) (l_953 : List Int) (K_L1 : (List R60) → Int → (List R51) → Int → Bool → Int → Prop) : Nat → Bool → Int → Prop
 | 0, _, _ => False
 | kL10 + 1, b_964, x_965 => ((x_965 < (l_953.length : Int) ∧ ((0 ≤ x_965 ∧ x_965 < (l_953.length : Int)) ∧ ((0 ≤ x_965 ∧ x_965 < (l_60.length : Int)) ∧ (¬ ((gn l_953 (x_965.toNat)) ≠ ((gx l_60 (x_965.toNat)).1)) ∧ reliquarylaw15_BuffersPlays.L10 x_56 l_60 x_64 a_941_0 l_945_1 l_953 K_L1 kL10 b_964 (IntKind.i64.wrap (x_965 + 1)))))) ∨ (¬ (x_965 < (l_953.length : Int)) ∧ K_L1 l_945_1 x_56 l_60 a_941_0 b_964 (IntKind.i64.wrap (x_64 + 1))))
def reliquarylaw15_BuffersPlays.L1 (l1 : List R41) : Nat → (List R60) → Int → (List R51) → Int → Bool → Int → Prop
 | 0, _, _, _, _, _, _ => False
 | kL1 + 1, l_49, x_56, l_60, x_62, b_63, x_64 => ((x_64 < (l1.length : Int) ∧ ((x_64 < 60 ∧ ((0 ≤ x_64 ∧ x_64 < (l1.length : Int)) ∧ (∃ (r_97 : List Int), reliquarylaw15_full.rel ((gx l1 (x_64.toNat)).2.2.1) ((gx l1 (x_64.toNat)).2.2.2) r_97 ∧ (((bits .and .i64 ((gx l1 (x_64.toNat)).1) 7) = 0 ∧ (∃ (a_110_0 : Int) (l_114_1 : List R60) (a_119 : Int), buffers_Cache_Put.rel x_62 l_49 ((gx l1 (x_64.toNat)).2.1) r_97 a_110_0 l_114_1 a_119 ∧ (∃ (a_128_0 : Int) (l_132_1 : List R51) (a_136 : Int), reliquaryref15_Put.rel x_56 l_60 ((gx l1 (x_64.toNat)).2.1) (strOfNums r_97) a_128_0 l_132_1 a_136 ∧ (∃ (a_153_0 : Int) (l_157_1 : List R60) (l_165 : List Int), buffers_Cache_Blocks.rel a_110_0 l_114_1 a_153_0 l_157_1 l_165 ∧ (¬ (¬ (a_119 = a_136)) ∧ (¬ ((l_165.length : Int) ≠ (l_132_1.length : Int)) ∧ (∃ k_ : Nat, reliquarylaw15_BuffersPlays.L2 x_64 a_128_0 l_132_1 a_153_0 l_157_1 l_165 (reliquarylaw15_BuffersPlays.L1 l1 kL1) k_ b_63 0))))))) ∨ (¬ ((bits .and .i64 ((gx l1 (x_64.toNat)).1) 7) = 0) ∧ (((bits .and .i64 ((gx l1 (x_64.toNat)).1) 7) = 1 ∧ (∃ (a_211_0 : Int) (l_215_1 : List R60) (a_220 : Int), buffers_Cache_Put.rel x_62 l_49 ((gx l1 (x_64.toNat)).2.1) r_97 a_211_0 l_215_1 a_220 ∧ (∃ (a_229_0 : Int) (l_233_1 : List R51) (a_237 : Int), reliquaryref15_Put.rel x_56 l_60 ((gx l1 (x_64.toNat)).2.1) (strOfNums r_97) a_229_0 l_233_1 a_237 ∧ (∃ (a_254_0 : Int) (l_258_1 : List R60) (l_266 : List Int), buffers_Cache_Blocks.rel a_211_0 l_215_1 a_254_0 l_258_1 l_266 ∧ (¬ (¬ (a_220 = a_237)) ∧ (¬ ((l_266.length : Int) ≠ (l_233_1.length : Int)) ∧ (∃ k_ : Nat, reliquarylaw15_BuffersPlays.L3 x_64 a_229_0 l_233_1 a_254_0 l_258_1 l_266 (reliquarylaw15_BuffersPlays.L1 l1 kL1) k_ b_63 0))))))) ∨ (¬ ((bits .and .i64 ((gx l1 (x_64.toNat)).1) 7) = 1) ∧ (((bits .and .i64 ((gx l1 (x_64.toNat)).1) 7) = 2 ∧ (∃ (a_312_0 : Int) (l_316_1 : List R60) (l_324 : List Int) (a_328 : Bool), buffers_Cache_Get.rel x_62 l_49 ((gx l1 (x_64.toNat)).2.1) a_312_0 l_316_1 l_324 a_328 ∧ (∃ (a_337_0 : Int) (l_341_1 : List R51) (a_345 : ByteArray) (a_347 : Bool), reliquaryref15_Get.rel x_56 l_60 ((gx l1 (x_64.toNat)).2.1) a_337_0 l_341_1 a_345 a_347 ∧ ((strOfNums l_324).toList = a_345.toList ∧ (∃ (a_366_0 : Int) (l_370_1 : List R60) (l_378 : List Int), buffers_Cache_Blocks.rel a_312_0 l_316_1 a_366_0 l_370_1 l_378 ∧ (¬ (¬ (a_328 = a_347)) ∧ (¬ ((l_378.length : Int) ≠ (l_341_1.length : Int)) ∧ (∃ k_ : Nat, reliquarylaw15_BuffersPlays.L4 x_64 a_337_0 l_341_1 a_366_0 l_370_1 l_378 (reliquarylaw15_BuffersPlays.L1 l1 kL1) k_ b_63 0)))))))) ∨ (¬ ((bits .and .i64 ((gx l1 (x_64.toNat)).1) 7) = 2) ∧ (((bits .and .i64 ((gx l1 (x_64.toNat)).1) 7) = 3 ∧ (∃ (a_447_0 : Int) (l_451_1 : List R60) (l_459 : List Int) (a_463 : Bool), buffers_Cache_Get.rel x_62 l_49 ((gx l1 (x_64.toNat)).2.1) a_447_0 l_451_1 l_459 a_463 ∧ (∃ (a_472_0 : Int) (l_476_1 : List R51) (a_480 : ByteArray) (a_482 : Bool), reliquaryref15_Get.rel x_56 l_60 ((gx l1 (x_64.toNat)).2.1) a_472_0 l_476_1 a_480 a_482 ∧ ((strOfNums l_459).toList = a_480.toList ∧ (∃ (a_501_0 : Int) (l_505_1 : List R60) (l_513 : List Int), buffers_Cache_Blocks.rel a_447_0 l_451_1 a_501_0 l_505_1 l_513 ∧ (¬ (¬ (a_463 = a_482)) ∧ (¬ ((l_513.length : Int) ≠ (l_476_1.length : Int)) ∧ (∃ k_ : Nat, reliquarylaw15_BuffersPlays.L5 x_64 a_472_0 l_476_1 a_501_0 l_505_1 l_513 (reliquarylaw15_BuffersPlays.L1 l1 kL1) k_ b_63 0)))))))) ∨ (¬ ((bits .and .i64 ((gx l1 (x_64.toNat)).1) 7) = 3) ∧ (((bits .and .i64 ((gx l1 (x_64.toNat)).1) 7) = 4 ∧ (∃ (a_582_0 : Int) (l_586_1 : List R60) (a_591 : Bool), buffers_Cache_Pin.rel x_62 l_49 ((gx l1 (x_64.toNat)).2.1) a_582_0 l_586_1 a_591 ∧ (∃ (a_600_0 : Int) (l_604_1 : List R51) (a_608 : Bool), reliquaryref15_Hold.rel x_56 l_60 ((gx l1 (x_64.toNat)).2.1) 1 a_600_0 l_604_1 a_608 ∧ (∃ (a_625_0 : Int) (l_629_1 : List R60) (l_637 : List Int), buffers_Cache_Blocks.rel a_582_0 l_586_1 a_625_0 l_629_1 l_637 ∧ (¬ (¬ (a_591 = a_608)) ∧ (¬ ((l_637.length : Int) ≠ (l_604_1.length : Int)) ∧ (∃ k_ : Nat, reliquarylaw15_BuffersPlays.L6 x_64 a_600_0 l_604_1 a_625_0 l_629_1 l_637 (reliquarylaw15_BuffersPlays.L1 l1 kL1) k_ b_63 0))))))) ∨ (¬ ((bits .and .i64 ((gx l1 (x_64.toNat)).1) 7) = 4) ∧ (((bits .and .i64 ((gx l1 (x_64.toNat)).1) 7) = 5 ∧ (∃ (a_683_0 : Int) (l_687_1 : List R60) (a_692 : Bool), buffers_Cache_Unpin.rel x_62 l_49 ((gx l1 (x_64.toNat)).2.1) a_683_0 l_687_1 a_692 ∧ (∃ (a_701_0 : Int) (l_705_1 : List R51) (a_709 : Bool), reliquaryref15_Hold.rel x_56 l_60 ((gx l1 (x_64.toNat)).2.1) (-1) a_701_0 l_705_1 a_709 ∧ (∃ (a_726_0 : Int) (l_730_1 : List R60) (l_738 : List Int), buffers_Cache_Blocks.rel a_683_0 l_687_1 a_726_0 l_730_1 l_738 ∧ (¬ (¬ (a_692 = a_709)) ∧ (¬ ((l_738.length : Int) ≠ (l_705_1.length : Int)) ∧ (∃ k_ : Nat, reliquarylaw15_BuffersPlays.L7 x_64 a_701_0 l_705_1 a_726_0 l_730_1 l_738 (reliquarylaw15_BuffersPlays.L1 l1 kL1) k_ b_63 0))))))) ∨ (¬ ((bits .and .i64 ((gx l1 (x_64.toNat)).1) 7) = 5) ∧ (((bits .and .i64 ((gx l1 (x_64.toNat)).1) 7) = 6 ∧ (∃ (a_784_0 : Int) (l_788_1 : List R60) (a_793 : Bool), buffers_Cache_Drop.rel x_62 l_49 ((gx l1 (x_64.toNat)).2.1) a_784_0 l_788_1 a_793 ∧ (∃ (a_802_0 : Int) (l_806_1 : List R51) (a_810 : Bool), reliquaryref15_Drop.rel x_56 l_60 ((gx l1 (x_64.toNat)).2.1) a_802_0 l_806_1 a_810 ∧ (∃ (a_827_0 : Int) (l_831_1 : List R60) (l_839 : List Int), buffers_Cache_Blocks.rel a_784_0 l_788_1 a_827_0 l_831_1 l_839 ∧ (¬ (¬ (a_793 = a_810)) ∧ (¬ ((l_839.length : Int) ≠ (l_806_1.length : Int)) ∧ (∃ k_ : Nat, reliquarylaw15_BuffersPlays.L8 x_64 a_802_0 l_806_1 a_827_0 l_831_1 l_839 (reliquarylaw15_BuffersPlays.L1 l1 kL1) k_ b_63 0))))))) ∨ (¬ ((bits .and .i64 ((gx l1 (x_64.toNat)).1) 7) = 6) ∧ (((gx l1 (x_64.toNat)).2.2.2 = true ∧ (∃ (a_885_0 : Int) (l_889_1 : List R60), buffers_Cache_Clear.rel x_62 l_49 a_885_0 l_889_1 ∧ (∃ (a_902_0 : Int) (l_906_1 : List R60) (l_914 : List Int), buffers_Cache_Blocks.rel a_885_0 l_889_1 a_902_0 l_906_1 l_914 ∧ (¬ ((l_914.length : Int) ≠ 0) ∧ (∃ k_ : Nat, reliquarylaw15_BuffersPlays.L9 x_56 x_64 a_902_0 l_906_1 l_914 (reliquarylaw15_BuffersPlays.L1 l1 kL1) k_ b_63 0))))) ∨ (¬ ((gx l1 (x_64.toNat)).2.2.2 = true) ∧ (∃ (a_941_0 : Int) (l_945_1 : List R60) (l_953 : List Int), buffers_Cache_Blocks.rel x_62 l_49 a_941_0 l_945_1 l_953 ∧ (¬ ((l_953.length : Int) ≠ (l_60.length : Int)) ∧ (∃ k_ : Nat, reliquarylaw15_BuffersPlays.L10 x_56 l_60 x_64 a_941_0 l_945_1 l_953 (reliquarylaw15_BuffersPlays.L1 l1 kL1) k_ b_63 0)))))))))))))))))))))) ∨ (¬ (x_64 < 60) ∧ True))) ∨ (¬ (x_64 < (l1.length : Int)) ∧ True))
def reliquarylaw15_BuffersPlays.rel (a0 : Int) (l1 : List R41)  : Prop := (reliquarylaw15_awake.rel  ∧ (∃ (a_11_0 : Int) (l_15_1 : List R60), buffers_New.rel a0 a_11_0 l_15_1 ∧ (∃ k_ : Nat, reliquarylaw15_BuffersPlays.L1 l1 k_ l_15_1 a0 ([] : List R51) a_11_0 false 0)))
set_option maxHeartbeats 4000000 in
set_option maxRecDepth 100000 in
theorem reliquarylaw15_BuffersPlays.calls (w : World) (a0 : Int) (l1 : List R41) (A1 : Option Addr) (n1 : Nat) (c1 : Nat)  (hb1 : HS w [] [] A1 n1 c1 (f41 w) l1)  (H : reliquarylaw15_BuffersPlays.rel a0 l1 ) :
  Calls Try.prog 5 #[.int .i64 a0, .slice A1 n1 c1] w fun e w' => e = .returned (.bool true) ∧ Below w.heap.size w w' := by
 refine CW.enter Try.func5 rfl (n := 194) rfl [.int .i64 a0, .slice A1 n1 c1] (Nat.le_of_ble_eq_true rfl) ?_
 refine CW.sub [(0, .int .i64 a0), (1, .slice A1 n1 c1)] ⟨rfl, rfl, trivial⟩ ?_
 obtain ⟨T, R, hT, hR, st0⟩ := St.start w
 have hT0 : Pl [] T := ⟨fun _ h_ => (by cases h_), fun _ => hT⟩
 refine CW.seq ?_
 refine CW.region ?_
 refine WL.val Wanted.none (Runs.assign rfl) ?_
 refine WL.nil ?_
 refine QW.then_n ?_
 refine CW.seq ?_
 refine CW.region ?_
 obtain ⟨hr_1, H⟩ := H
 refine WL.call Wanted.none ent8 rfl (reliquarylaw15_awake.calls w hr_1) ?_
 rintro _ w_2 ⟨rfl, sc_4⟩
 have st_3 : St w w_2 ((T ++ R)) := st0.below sc_4
 refine ⟨_, rfl, ?_⟩
 refine WL.val Wanted.none (Runs.assign rfl) ?_
 refine WL.nil ?_
 refine QW.then_n ?_
 refine CW.seq ?_
 refine CW.seq ?_
 refine CW.region ?_
 refine WL.val Wanted.none (Runs.move rfl) ?_
 refine WL.val Wanted.none (Runs.not rfl rfl) ?_
 refine WL.nil ?_
 refine QW.then_n ?_
 refine CW.cf rfl rfl ?_
 refine CW.skip ?_
 refine QW.then_n ?_
 refine CW.seq ?_
 refine CW.region ?_
 refine WL.val Wanted.none (Runs.move rfl) ?_
 have st_5 : St w w_2 ((T ++ (R))) := St.hide (A := []) (B := []) (T := T) (R := R) st_3
 obtain ⟨a_11_0, l_15_1, hr_6, H⟩ := H
 refine WL.call Wanted.none ent10 rfl (buffers_New.calls w w_2 T (R) a0  st_5 a_11_0 l_15_1 hr_6) ?_
 rintro _ w_19 ⟨T_7, b_10, A_12_1, n_13_1, c_14_1, x_16_1, hs_8, hn_17_1, hx_18_1, rfl, sc_21⟩
 have st_20 : St w w_19 (.cells b_10 (([.int .i64 a_11_0] : Cells) ++ ([.slice A_12_1 n_13_1 c_14_1] : Cells)) 57 :: .sl A_12_1 c_14_1 n_13_1 x_16_1 60 3 :: (T_7 ++ R)) := St.unhide (A := [_, _]) (B := []) (T := T_7) (R := R) sc_21
 refine ⟨_, rfl, ?_⟩
 refine WL.val Wanted.none (Runs.assign rfl) ?_
 refine WL.nil ?_
 refine QW.then_n ?_
 refine CW.sub [(0, .int .i64 a0), (1, .slice A1 n1 c1), (4, .bool false), (6, .pointer (some ⟨b_10, 0, none⟩))] ⟨rfl, rfl, rfl, rfl, trivial⟩ ?_
 refine CW.seq ?_
 refine CW.region ?_
 refine WL.val Wanted.none (Runs.move rfl) ?_
 refine WL.val Wanted.none (Runs.build_struct (ps := [(0, 1), (1, 1)]) (cs := (([.int .i64 a0] : Cells) ++ ([.slice none 0 0] : Cells))) plc39 zero39 rfl (by refine Fills.cons (o := 0) (ms := (([.int .i64 a0] : Cells))) (show _ = some (0, (([.int .i64 a0] : Cells)).length) by rw [show (([.int .i64 a0] : Cells)).length = 1 from (by first | rfl | simp only [List.length_append, List.length_cons, List.length_nil, iv_length])] <;> rfl) rfl (by have h1_ : (([.int .i64 a0] : Cells)).length = 1 := (by first | rfl | simp only [List.length_append, List.length_cons, List.length_nil, iv_length]); have h2_ : (([.int .i64 0] : Cells) ++ ([.slice none 0 0] : Cells)).length = 2 := (by first | rfl | simp only [List.length_append, List.length_cons, List.length_nil, iv_length]); omega) ?_; rw [show layV (([.int .i64 0] : Cells) ++ ([.slice none 0 0] : Cells)) 0 (([.int .i64 a0] : Cells)) = (([.int .i64 a0] : Cells) ++ ([.slice none 0 0] : Cells)) from (layV_mid (pre := (([] : Cells))) (mid := (([.int .i64 0] : Cells))) (post := (([.slice none 0 0] : Cells))) (by first | rfl | simp only [List.append_assoc, List.append_nil, List.nil_append, List.cons_append]) (by first | rfl | simp only [List.length_append, List.length_cons, List.length_nil, iv_length]) (Eq.trans (b := 1) (by first | rfl | simp only [List.length_append, List.length_cons, List.length_nil, iv_length]) (Eq.symm (by first | rfl | simp only [List.length_append, List.length_cons, List.length_nil, iv_length])))).trans (by first | rfl | simp only [List.append_assoc, List.append_nil, List.nil_append, List.cons_append])]; exact Fills.nil)) ?_
 refine WL.alloc st_20 zero39 ?_
 intro B_22 w_23 st_24
 replace st_24 : St w w_23 (.cells B_22 (([.int .i64 0] : Cells) ++ ([.slice none 0 0] : Cells)) 39 :: .cells b_10 (([.int .i64 a_11_0] : Cells) ++ ([.slice A_12_1 n_13_1 c_14_1] : Cells)) 57 :: .sl A_12_1 c_14_1 n_13_1 x_16_1 60 3 :: (T_7 ++ R)) := st_24
 refine WL.store_mid (i := 0) (pre := (([] : Cells))) (mid := (([.int .i64 0] : Cells) ++ ([.slice none 0 0] : Cells))) (post := (([] : Cells))) (ms := (([.int .i64 a0] : Cells) ++ ([.slice none 0 0] : Cells))) st_24 rfl row39 (by first | rfl | simp only [List.append_assoc, List.append_nil, List.nil_append, List.cons_append]) (by first | rfl | simp only [List.length_append, List.length_cons, List.length_nil, iv_length]) rfl rfl (by first | rfl | simp only [List.length_append, List.length_cons, List.length_nil, iv_length]) (by first | rfl | simp only [List.length_append, List.length_cons, List.length_nil, iv_length]) (by intro u hu; simp only [List.mem_append, List.mem_singleton] at hu; rcases hu with hu | hu <;> first | exact one_iv _ _ u hu | (subst hu; rfl)) ?_
 intro w_26 st_27
 replace st_27 : St w w_26 (.cells B_22 (([.int .i64 a0] : Cells) ++ ([.slice none 0 0] : Cells)) 39 :: .cells b_10 (([.int .i64 a_11_0] : Cells) ++ ([.slice A_12_1 n_13_1 c_14_1] : Cells)) 57 :: .sl A_12_1 c_14_1 n_13_1 x_16_1 60 3 :: (T_7 ++ R)) := by have e_ : (([.int .i64 a0] : Cells) ++ ([.slice none 0 0] : Cells)) = (([] : Cells)) ++ ((([.int .i64 a0] : Cells) ++ ([.slice none 0 0] : Cells)) ++ (([] : Cells))) := (by first | rfl | simp only [List.append_assoc, List.append_nil, List.nil_append, List.cons_append]); have h_ : St w w_26 (.cells B_22 ((([] : Cells)) ++ ((([.int .i64 a0] : Cells) ++ ([.slice none 0 0] : Cells)) ++ (([] : Cells)))) 39 :: .cells b_10 (([.int .i64 a_11_0] : Cells) ++ ([.slice A_12_1 n_13_1 c_14_1] : Cells)) 57 :: .sl A_12_1 c_14_1 n_13_1 x_16_1 60 3 :: (T_7 ++ R)) := st_27; rw [← e_] at h_; exact h_
 refine WL.nil ?_
 refine QW.then_n ?_
 refine CW.seq ?_
 refine CW.seq ?_
 refine CW.region ?_
 refine WL.val Wanted.none (Runs.assign rfl) ?_
 refine WL.nil ?_
 refine QW.then_n ?_
 refine CW.block ?_
 obtain ⟨k_28, H⟩ := H
 refine CW.sub [(1, .slice A1 n1 c1), (4, .bool false), (6, .pointer (some ⟨b_10, 0, none⟩)), (7, .pointer (some ⟨B_22, 0, none⟩)), (8, .int .i64 0)] ⟨rfl, rfl, rfl, rfl, rfl, trivial⟩ ?_
 refine CW.loop (fun kL1 l_ w_ => ∃ (T_47 : Pool) (A_53 : Option Addr) (c_54 : Nat) (n_55 : Nat) (x_51 : Cells) (l_49 : List R60) (x_56 : Int) (A_57 : Option Addr) (n_58 : Nat) (c_59 : Nat) (l_60 : List R51) (x_62 : Int) (b_63 : Bool) (x_64 : Int), l_ = [(1, .slice A1 n1 c1), (4, .bool b_63), (6, .pointer (some ⟨b_10, 0, none⟩)), (7, .pointer (some ⟨B_22, 0, none⟩)), (8, .int .i64 x_64)] ∧ reliquarylaw15_BuffersPlays.L1 l1 kL1 l_49 x_56 l_60 x_62 b_63 x_64 ∧ (Pl T_7 T_47) ∧ (n_55 = l_49.length) ∧ (HRs T_47 (f60 w) x_51 l_49) ∧ (HS w T_47 T_47 A_57 n_58 c_59 (f51 w) l_60) ∧ St w w_ (.cells B_22 (([.int .i64 x_56] : Cells) ++ ([.slice A_57 n_58 c_59] : Cells)) 39 :: .cells b_10 (([.int .i64 x_62] : Cells) ++ ([.slice A_53 n_55 c_54] : Cells)) 57 :: .sl A_53 c_54 n_55 x_51 60 3 :: (T_47 ++ R))) (k := k_28) ⟨T_7, A_12_1, c_14_1, n_13_1, x_16_1, l_15_1, a0, none, 0, 0, ([] : List R51), a_11_0, false, 0, rfl, H, Pl.refl, hn_17_1, hx_18_1, (by first | exact HB.nil | exact HS.nil), st_27⟩ (fun _ _ h => by obtain ⟨_, _, _, _, _, _, _, _, _, _, _, _, _, _, _, h, _⟩ := h; exact h.elim) ?_
 rintro kL1 l_67 w_65 ⟨T_47, A_53, c_54, n_55, x_51, l_49, x_56, A_57, n_58, c_59, l_60, x_62, b_63, x_64, rfl, H, hs_48, hn_50, hx_52, hb_61, st_66⟩
 refine CW.seq ?_
 refine CW.seq ?_
 refine CW.region ?_
 refine WL.val Wanted.none (Runs.move rfl) ?_
 refine WL.val Wanted.none (Runs.move rfl) ?_
 refine WL.val Wanted.none (Runs.len_sl Try.underlying36 rfl (by rw [hb1.1])) ?_
 refine WL.val Wanted.none (Runs.lss rfl rfl rfl) ?_
 refine WL.val Wanted.none (Runs.move rfl) ?_
 rcases H with ⟨c_68, H⟩ | ⟨c_68, H⟩
 ·have h_69 : (decide (x_64 < (l1.length : Int))) = true := (decide_eq_true c_68)
  refine WL.on ?_ ?_; exact Wanted.guard (dj := 42) (by rfl) (evb (by rfl) h_69) (by rfl)
  refine WL.val Wanted.none (Runs.move rfl) ?_
  refine WL.on ?_ ?_; exact Wanted.guard (dj := 42) (by rfl) (evb (by rfl) h_69) (by rfl)
  refine WL.val Wanted.none (Runs.lss rfl rfl rfl) ?_
  refine WL.val Wanted.none (Runs.pick_t (evb rfl h_69) rfl) ?_
  refine WL.nil ?_
  refine QW.then_n ?_
  rcases H with ⟨c_70, H⟩ | ⟨c_70, H⟩
  ·have h_71 : (decide (x_64 < 60)) = true := (decide_eq_true c_70)
   refine CW.ct rfl h_71 ?_
   refine CW.skip ?_
   refine QW.then_n ?_
   refine CW.seq ?_
   refine CW.block ?_
   refine CW.seq ?_
   refine CW.region ?_
   refine WL.val Wanted.none (Runs.move rfl) ?_
   refine WL.val Wanted.none (Runs.move rfl) ?_
   obtain ⟨⟨p_72, q_73⟩, H⟩ := H
   obtain ⟨x_74, hs_75, hr_76⟩ := hb1.2.2
   obtain ⟨a_77, e_78, ms_79, hc_80, hm_81⟩ := el_get (i := (x_64).toNat) ((hs_75.at st_66 (mem_T (A := [_, _, _]) (fun _ h_ => hs_48.1 _ (hs_8.1 _ (hT0.1 _ h_)))))) (hr_76.mono (fun _ h_ => hs_48.1 _ (hs_8.1 _ (hT0.1 _ h_)))) (fz41 w) (by decide) (by omega)
   obtain ⟨A_82, n_83, c_84, em_86, hb_85⟩ := inv41 hm_81
   replace em_86 : ms_79 = ([.int .i64 ((gx l1 (x_64.toNat)).1)] : Cells) ++ (([.int .u64 ((gx l1 (x_64.toNat)).2.1)] : Cells) ++ (([.slice A_82 n_83 c_84] : Cells) ++ ([.bool ((gx l1 (x_64.toNat)).2.2.2)] : Cells))) := em_86
   subst em_86
   refine WL.val Wanted.none (Runs.indexAddr Try.underlying36 cells41 (by decide) rfl e_78 rfl p_72 (by rw [show n1 = l1.length from hb1.1]; exact q_73) (o := (x_64.toNat) * 4) (by first | rfl | omega)) ?_
   refine WL.val Wanted.none (Runs.load_srcR row41 rfl (Src.cut ((hs_75.at st_66 (mem_T (A := [_, _, _]) (fun _ h_ => hs_48.1 _ (hs_8.1 _ (hT0.1 _ h_)))))) e_78 hc_80) rfl) ?_
   refine WL.alloc st_66 zero41 ?_
   intro B_87 w_88 st_89
   replace st_89 : St w w_88 (.cells B_87 (([.int .i64 0] : Cells) ++ (([.int .u64 0] : Cells) ++ (([.slice none 0 0] : Cells) ++ ([.bool false] : Cells)))) 41 :: .cells B_22 (([.int .i64 x_56] : Cells) ++ ([.slice A_57 n_58 c_59] : Cells)) 39 :: .cells b_10 (([.int .i64 x_62] : Cells) ++ ([.slice A_53 n_55 c_54] : Cells)) 57 :: .sl A_53 c_54 n_55 x_51 60 3 :: (T_47 ++ R)) := st_89
   refine WL.store_mid (i := 0) (pre := (([] : Cells))) (mid := (([.int .i64 0] : Cells) ++ (([.int .u64 0] : Cells) ++ (([.slice none 0 0] : Cells) ++ ([.bool false] : Cells))))) (post := (([] : Cells))) (ms := (([.int .i64 ((gx l1 (x_64.toNat)).1)] : Cells) ++ (([.int .u64 ((gx l1 (x_64.toNat)).2.1)] : Cells) ++ (([.slice A_82 n_83 c_84] : Cells) ++ ([.bool ((gx l1 (x_64.toNat)).2.2.2)] : Cells))))) st_89 rfl row41 (by first | rfl | simp only [List.append_assoc, List.append_nil, List.nil_append, List.cons_append]) (by first | rfl | simp only [List.length_append, List.length_cons, List.length_nil, iv_length]) rfl rfl (by first | rfl | simp only [List.length_append, List.length_cons, List.length_nil, iv_length]) (by first | rfl | simp only [List.length_append, List.length_cons, List.length_nil, iv_length]) (by intro u hu; simp only [List.mem_append, List.mem_singleton] at hu; rcases hu with hu | hu | hu | hu <;> first | exact one_iv _ _ u hu | (subst hu; rfl)) ?_
   intro w_91 st_92
   replace st_92 : St w w_91 (.cells B_87 (([.int .i64 ((gx l1 (x_64.toNat)).1)] : Cells) ++ (([.int .u64 ((gx l1 (x_64.toNat)).2.1)] : Cells) ++ (([.slice A_82 n_83 c_84] : Cells) ++ ([.bool ((gx l1 (x_64.toNat)).2.2.2)] : Cells)))) 41 :: .cells B_22 (([.int .i64 x_56] : Cells) ++ ([.slice A_57 n_58 c_59] : Cells)) 39 :: .cells b_10 (([.int .i64 x_62] : Cells) ++ ([.slice A_53 n_55 c_54] : Cells)) 57 :: .sl A_53 c_54 n_55 x_51 60 3 :: (T_47 ++ R)) := by have e_ : (([.int .i64 ((gx l1 (x_64.toNat)).1)] : Cells) ++ (([.int .u64 ((gx l1 (x_64.toNat)).2.1)] : Cells) ++ (([.slice A_82 n_83 c_84] : Cells) ++ ([.bool ((gx l1 (x_64.toNat)).2.2.2)] : Cells)))) = (([] : Cells)) ++ ((([.int .i64 ((gx l1 (x_64.toNat)).1)] : Cells) ++ (([.int .u64 ((gx l1 (x_64.toNat)).2.1)] : Cells) ++ (([.slice A_82 n_83 c_84] : Cells) ++ ([.bool ((gx l1 (x_64.toNat)).2.2.2)] : Cells)))) ++ (([] : Cells))) := (by first | rfl | simp only [List.append_assoc, List.append_nil, List.nil_append, List.cons_append]); have h_ : St w w_91 (.cells B_87 ((([] : Cells)) ++ ((([.int .i64 ((gx l1 (x_64.toNat)).1)] : Cells) ++ (([.int .u64 ((gx l1 (x_64.toNat)).2.1)] : Cells) ++ (([.slice A_82 n_83 c_84] : Cells) ++ ([.bool ((gx l1 (x_64.toNat)).2.2.2)] : Cells)))) ++ (([] : Cells)))) 41 :: .cells B_22 (([.int .i64 x_56] : Cells) ++ ([.slice A_57 n_58 c_59] : Cells)) 39 :: .cells b_10 (([.int .i64 x_62] : Cells) ++ ([.slice A_53 n_55 c_54] : Cells)) 57 :: .sl A_53 c_54 n_55 x_51 60 3 :: (T_47 ++ R)) := st_92; rw [← e_] at h_; exact h_
   refine WL.nil ?_
   refine QW.then_n ?_
   refine CW.seq ?_
   refine CW.region ?_
   refine WL.val Wanted.none (Runs.fieldAddr (off := 2) (p := 2) fld41_2 rfl rfl rfl) ?_
   refine WL.val Wanted.none (Runs.load nagg22 rfl (st_92.cell (k := 0) rfl (part_one (u := .slice A_82 n_83 c_84) (pre := (([.int .i64 ((gx l1 (x_64.toNat)).1)] : Cells) ++ ([.int .u64 ((gx l1 (x_64.toNat)).2.1)] : Cells))) (post := (([.bool ((gx l1 (x_64.toNat)).2.2.2)] : Cells))) (by first | rfl | simp only [List.append_assoc, List.append_nil, List.nil_append, List.cons_append]) (by first | rfl | simp only [List.length_append, List.length_cons, List.length_nil, iv_length])))) ?_
   refine WL.val Wanted.none (Runs.fieldAddr (off := 3) (p := 3) fld41_3 rfl rfl rfl) ?_
   refine WL.val Wanted.none (Runs.load nagg4 rfl (st_92.cell (k := 0) rfl (part_one (u := .bool ((gx l1 (x_64.toNat)).2.2.2)) (pre := (([.int .i64 ((gx l1 (x_64.toNat)).1)] : Cells) ++ (([.int .u64 ((gx l1 (x_64.toNat)).2.1)] : Cells) ++ ([.slice A_82 n_83 c_84] : Cells)))) (post := (([] : Cells))) (by first | rfl | simp only [List.append_assoc, List.append_nil, List.nil_append, List.cons_append]) (by first | rfl | simp only [List.length_append, List.length_cons, List.length_nil, iv_length])))) ?_
   obtain ⟨r_97, hr_93, H⟩ := H
   refine WL.call Wanted.none ent9 rfl (reliquarylaw15_full.calls w_91 ((gx l1 (x_64.toNat)).2.2.1) ((gx l1 (x_64.toNat)).2.2.2) A_82 n_83 c_84 ((hb_85.2.2.at st_92 (mem_T (A := [_, _, _, _]) (fun _ h_ => h_)))) (hb_85.1) (hb_85.2.1) r_97 hr_93) ?_
   rintro _ w_94 ⟨A_98, c_99, n_100, hn_101, rfl, sc_96⟩
   have st_95 : St w w_94 (.sl A_98 c_99 n_100 (iv .u8 r_97) 5 1 :: .cells B_87 (([.int .i64 ((gx l1 (x_64.toNat)).1)] : Cells) ++ (([.int .u64 ((gx l1 (x_64.toNat)).2.1)] : Cells) ++ (([.slice A_82 n_83 c_84] : Cells) ++ ([.bool ((gx l1 (x_64.toNat)).2.2.2)] : Cells)))) 41 :: .cells B_22 (([.int .i64 x_56] : Cells) ++ ([.slice A_57 n_58 c_59] : Cells)) 39 :: .cells b_10 (([.int .i64 x_62] : Cells) ++ ([.slice A_53 n_55 c_54] : Cells)) 57 :: .sl A_53 c_54 n_55 x_51 60 3 :: (T_47 ++ R)) := st_92.call sc_96
   refine ⟨_, rfl, ?_⟩
   refine WL.val Wanted.none (Runs.assign rfl) ?_
   refine WL.nil ?_
   refine QW.then_n ?_
   refine CW.seq ?_
   refine CW.region ?_
   refine WL.val Wanted.none (Runs.assign rfl) ?_
   refine WL.nil ?_
   refine QW.then_n ?_
   refine CW.seq ?_
   refine CW.seq ?_
   refine CW.region ?_
   refine WL.val Wanted.none (Runs.fieldAddr (off := 0) (p := 0) fld41_0 rfl rfl rfl) ?_
   refine WL.val Wanted.none (Runs.load nagg3 rfl (st_95.cell (k := 1) rfl (part_one (u := .int .i64 ((gx l1 (x_64.toNat)).1)) (pre := (([] : Cells))) (post := (([.int .u64 ((gx l1 (x_64.toNat)).2.1)] : Cells) ++ (([.slice A_82 n_83 c_84] : Cells) ++ ([.bool ((gx l1 (x_64.toNat)).2.2.2)] : Cells)))) (by first | rfl | simp only [List.append_assoc, List.append_nil, List.nil_append, List.cons_append]) (by first | rfl | simp only [List.length_append, List.length_cons, List.length_nil, iv_length])))) ?_
   refine WL.val Wanted.none (Runs.band rfl rfl rfl) ?_
   refine WL.nil ?_
   refine QW.then_n ?_
   refine CW.block ?_
   refine CW.seq ?_
   refine CW.seq ?_
   refine CW.region ?_
   refine WL.val Wanted.none (Runs.eql rfl rfl rfl) ?_
   refine WL.val Wanted.none (Runs.assign rfl) ?_
   refine WL.nil ?_
   refine QW.then_n ?_
   rcases H with ⟨c_103, H⟩ | ⟨c_103, H⟩
   ·have h_104 : ((bits .and .i64 ((gx l1 (x_64.toNat)).1) 7) == 0) = true := (beq_iff_eq.mpr c_103)
    refine CW.ct rfl h_104 ?_
    refine CW.skip ?_
    refine QW.then_n ?_
    refine CW.ct rfl h_104 ?_
    refine CW.seq ?_
    refine CW.region ?_
    refine WL.val Wanted.none (Runs.move rfl) ?_
    refine WL.val Wanted.none (Runs.fieldAddr (off := 1) (p := 1) fld41_1 rfl rfl rfl) ?_
    refine WL.val Wanted.none (Runs.load nagg29 rfl (st_95.cell (k := 1) rfl (part_one (u := .int .u64 ((gx l1 (x_64.toNat)).2.1)) (pre := (([.int .i64 ((gx l1 (x_64.toNat)).1)] : Cells))) (post := (([.slice A_82 n_83 c_84] : Cells) ++ ([.bool ((gx l1 (x_64.toNat)).2.2.2)] : Cells))) (by first | rfl | simp only [List.append_assoc, List.append_nil, List.nil_append, List.cons_append]) (by first | rfl | simp only [List.length_append, List.length_cons, List.length_nil, iv_length])))) ?_
    refine WL.val Wanted.none (Runs.move rfl) ?_
    have st_105 := (St.pickT (L := [_, _, _, _, _]) st_95 [3, 4, 0, 1, 2] (by decide))
    replace st_105 : St w w_94 (.cells b_10 (([.int .i64 x_62] : Cells) ++ ([.slice A_53 n_55 c_54] : Cells)) 57 :: .sl A_53 c_54 n_55 x_51 60 3 :: .sl A_98 c_99 n_100 (iv .u8 r_97) 5 1 :: .cells B_87 (([.int .i64 ((gx l1 (x_64.toNat)).1)] : Cells) ++ (([.int .u64 ((gx l1 (x_64.toNat)).2.1)] : Cells) ++ (([.slice A_82 n_83 c_84] : Cells) ++ ([.bool ((gx l1 (x_64.toNat)).2.2.2)] : Cells)))) 41 :: .cells B_22 (([.int .i64 x_56] : Cells) ++ ([.slice A_57 n_58 c_59] : Cells)) 39 :: (T_47 ++ R)) := st_105
    have st_106 : St w w_94 (.cells b_10 (([.int .i64 x_62] : Cells) ++ ([.slice A_53 n_55 c_54] : Cells)) 57 :: .sl A_53 c_54 n_55 x_51 60 3 :: (T_47 ++ (.sl A_98 c_99 n_100 (iv .u8 r_97) 5 1 :: .cells B_87 (([.int .i64 ((gx l1 (x_64.toNat)).1)] : Cells) ++ (([.int .u64 ((gx l1 (x_64.toNat)).2.1)] : Cells) ++ (([.slice A_82 n_83 c_84] : Cells) ++ ([.bool ((gx l1 (x_64.toNat)).2.2.2)] : Cells)))) 41 :: .cells B_22 (([.int .i64 x_56] : Cells) ++ ([.slice A_57 n_58 c_59] : Cells)) 39 :: R))) := St.hide (A := [_, _]) (B := [_, _, _]) (T := T_47) (R := R) st_105
    obtain ⟨a_110_0, l_114_1, a_119, hr_107, H⟩ := H
    refine WL.call Wanted.none ent11 rfl (buffers_Cache_Put.calls w w_94 T_47 (.sl A_98 c_99 n_100 (iv .u8 r_97) 5 1 :: .cells B_87 (([.int .i64 ((gx l1 (x_64.toNat)).1)] : Cells) ++ (([.int .u64 ((gx l1 (x_64.toNat)).2.1)] : Cells) ++ (([.slice A_82 n_83 c_84] : Cells) ++ ([.bool ((gx l1 (x_64.toNat)).2.2.2)] : Cells)))) 41 :: .cells B_22 (([.int .i64 x_56] : Cells) ++ ([.slice A_57 n_58 c_59] : Cells)) 39 :: R) x_62 l_49 ((gx l1 (x_64.toNat)).2.1) r_97 b_10 A_53 n_55 c_54 x_51 A_98 n_100 c_99 (hs_48.2 (hs_8.2 (hT0.2 (rfl : celly [] = true)))) (show celly (.sl A_98 c_99 n_100 (iv .u8 r_97) 5 1 :: .cells B_87 (([.int .i64 ((gx l1 (x_64.toNat)).1)] : Cells) ++ (([.int .u64 ((gx l1 (x_64.toNat)).2.1)] : Cells) ++ (([.slice A_82 n_83 c_84] : Cells) ++ ([.bool ((gx l1 (x_64.toNat)).2.2.2)] : Cells)))) 41 :: .cells B_22 (([.int .i64 x_56] : Cells) ++ ([.slice A_57 n_58 c_59] : Cells)) 39 :: R) = true from hR) st_106 (hn_50) hx_52 ⟨hn_101, st_105.cap (i := 2) rfl, fun W_ L_ st hT => st.src_mem (hT _ (List.mem_append_right _ (List.mem_of_getElem? (i := 0) rfl)))⟩ a_110_0 l_114_1 a_119 hr_107) ?_
    rintro _ w_120 ⟨T_108, A_111_1, n_112_1, c_113_1, x_115_1, hs_109, hn_116_1, hx_117_1, rfl, sc_122⟩
    have st_121 : St w w_120 (.cells b_10 (([.int .i64 a_110_0] : Cells) ++ ([.slice A_111_1 n_112_1 c_113_1] : Cells)) 57 :: .sl A_111_1 c_113_1 n_112_1 x_115_1 60 3 :: .sl A_98 c_99 n_100 (iv .u8 r_97) 5 1 :: .cells B_87 (([.int .i64 ((gx l1 (x_64.toNat)).1)] : Cells) ++ (([.int .u64 ((gx l1 (x_64.toNat)).2.1)] : Cells) ++ (([.slice A_82 n_83 c_84] : Cells) ++ ([.bool ((gx l1 (x_64.toNat)).2.2.2)] : Cells)))) 41 :: .cells B_22 (([.int .i64 x_56] : Cells) ++ ([.slice A_57 n_58 c_59] : Cells)) 39 :: (T_108 ++ R)) := St.unhide (A := [_, _]) (B := [_, _, _]) (T := T_108) (R := R) sc_122
    refine ⟨_, rfl, ?_⟩
    refine WL.val Wanted.none (Runs.assign rfl) ?_
    refine WL.nil ?_
    refine QW.then_n ?_
    refine CW.seq ?_
    refine CW.region ?_
    refine WL.val Wanted.none (Runs.load_mid row39 rfl st_121 (i := 4) rfl (part_mid (pre := (([] : Cells))) (mid := (([.int .i64 x_56] : Cells) ++ ([.slice A_57 n_58 c_59] : Cells))) (post := (([] : Cells))) (by first | rfl | simp only [List.append_assoc, List.append_nil, List.nil_append, List.cons_append]) (by first | rfl | simp only [List.length_append, List.length_cons, List.length_nil, iv_length]) (by first | rfl | simp only [List.length_append, List.length_cons, List.length_nil, iv_length])) (by first | rfl | simp only [List.length_append, List.length_cons, List.length_nil, iv_length])) ?_
    refine WL.val Wanted.none (Runs.fieldAddr (off := 1) (p := 1) fld41_1 rfl rfl rfl) ?_
    refine WL.val Wanted.none (Runs.load nagg29 rfl (st_121.cell (k := 3) rfl (part_one (u := .int .u64 ((gx l1 (x_64.toNat)).2.1)) (pre := (([.int .i64 ((gx l1 (x_64.toNat)).1)] : Cells))) (post := (([.slice A_82 n_83 c_84] : Cells) ++ ([.bool ((gx l1 (x_64.toNat)).2.2.2)] : Cells))) (by first | rfl | simp only [List.append_assoc, List.append_nil, List.nil_append, List.cons_append]) (by first | rfl | simp only [List.length_append, List.length_cons, List.length_nil, iv_length])))) ?_
    refine WL.val Wanted.none (Runs.move rfl) ?_
    refine WL.val Wanted.none (Runs.bytes_str Try.underlying22 Try.underlying5 Try.underlying9 rfl (st_121.src_sl (k := 2) rfl) hn_101) ?_
    have st_123 : St w w_120 ((T_108 ++ (.cells b_10 (([.int .i64 a_110_0] : Cells) ++ ([.slice A_111_1 n_112_1 c_113_1] : Cells)) 57 :: .sl A_111_1 c_113_1 n_112_1 x_115_1 60 3 :: .sl A_98 c_99 n_100 (iv .u8 r_97) 5 1 :: .cells B_87 (([.int .i64 ((gx l1 (x_64.toNat)).1)] : Cells) ++ (([.int .u64 ((gx l1 (x_64.toNat)).2.1)] : Cells) ++ (([.slice A_82 n_83 c_84] : Cells) ++ ([.bool ((gx l1 (x_64.toNat)).2.2.2)] : Cells)))) 41 :: .cells B_22 (([.int .i64 x_56] : Cells) ++ ([.slice A_57 n_58 c_59] : Cells)) 39 :: R))) := St.hide (A := []) (B := [_, _, _, _, _]) (T := T_108) (R := R) st_121
    obtain ⟨a_128_0, l_132_1, a_136, hr_124, H⟩ := H
    refine WL.call Wanted.none ent14 rfl (reliquaryref15_Put.calls w w_120 T_108 (.cells b_10 (([.int .i64 a_110_0] : Cells) ++ ([.slice A_111_1 n_112_1 c_113_1] : Cells)) 57 :: .sl A_111_1 c_113_1 n_112_1 x_115_1 60 3 :: .sl A_98 c_99 n_100 (iv .u8 r_97) 5 1 :: .cells B_87 (([.int .i64 ((gx l1 (x_64.toNat)).1)] : Cells) ++ (([.int .u64 ((gx l1 (x_64.toNat)).2.1)] : Cells) ++ (([.slice A_82 n_83 c_84] : Cells) ++ ([.bool ((gx l1 (x_64.toNat)).2.2.2)] : Cells)))) 41 :: .cells B_22 (([.int .i64 x_56] : Cells) ++ ([.slice A_57 n_58 c_59] : Cells)) 39 :: R) x_56 l_60 ((gx l1 (x_64.toNat)).2.1) (strOfNums r_97) A_57 n_58 c_59  st_123 (hb_61.mono (fun _ h_ => hs_109.1 _ h_) (fun _ h_ => hs_109.1 _ h_)) a_128_0 l_132_1 a_136 hr_124) ?_
    rintro _ w_137 ⟨T_125, A_129_1, n_130_1, c_131_1, hs_126, hb_134_1, rfl, sc_139⟩
    have st_138 : St w w_137 (.cells b_10 (([.int .i64 a_110_0] : Cells) ++ ([.slice A_111_1 n_112_1 c_113_1] : Cells)) 57 :: .sl A_111_1 c_113_1 n_112_1 x_115_1 60 3 :: .sl A_98 c_99 n_100 (iv .u8 r_97) 5 1 :: .cells B_87 (([.int .i64 ((gx l1 (x_64.toNat)).1)] : Cells) ++ (([.int .u64 ((gx l1 (x_64.toNat)).2.1)] : Cells) ++ (([.slice A_82 n_83 c_84] : Cells) ++ ([.bool ((gx l1 (x_64.toNat)).2.2.2)] : Cells)))) 41 :: .cells B_22 (([.int .i64 x_56] : Cells) ++ ([.slice A_57 n_58 c_59] : Cells)) 39 :: (T_125 ++ R)) := St.unhide (A := []) (B := [_, _, _, _, _]) (T := T_125) (R := R) sc_139
    refine ⟨_, rfl, ?_⟩
    refine WL.val Wanted.none (Runs.move rfl) ?_
    refine WL.val Wanted.none (Runs.extract rfl rfl) ?_
    refine WL.val Wanted.none (Runs.extract rfl rfl) ?_
    refine WL.alloc st_138 zero39 ?_
    intro B_140 w_141 st_142
    replace st_142 : St w w_141 (.cells B_140 (([.int .i64 0] : Cells) ++ ([.slice none 0 0] : Cells)) 39 :: .cells b_10 (([.int .i64 a_110_0] : Cells) ++ ([.slice A_111_1 n_112_1 c_113_1] : Cells)) 57 :: .sl A_111_1 c_113_1 n_112_1 x_115_1 60 3 :: .sl A_98 c_99 n_100 (iv .u8 r_97) 5 1 :: .cells B_87 (([.int .i64 ((gx l1 (x_64.toNat)).1)] : Cells) ++ (([.int .u64 ((gx l1 (x_64.toNat)).2.1)] : Cells) ++ (([.slice A_82 n_83 c_84] : Cells) ++ ([.bool ((gx l1 (x_64.toNat)).2.2.2)] : Cells)))) 41 :: .cells B_22 (([.int .i64 x_56] : Cells) ++ ([.slice A_57 n_58 c_59] : Cells)) 39 :: (T_125 ++ R)) := st_142
    refine WL.store_mid (i := 0) (pre := (([] : Cells))) (mid := (([.int .i64 0] : Cells) ++ ([.slice none 0 0] : Cells))) (post := (([] : Cells))) (ms := (([.int .i64 a_128_0] : Cells) ++ ([.slice A_129_1 n_130_1 c_131_1] : Cells))) st_142 rfl row39 (by first | rfl | simp only [List.append_assoc, List.append_nil, List.nil_append, List.cons_append]) (by first | rfl | simp only [List.length_append, List.length_cons, List.length_nil, iv_length]) rfl rfl (by first | rfl | simp only [List.length_append, List.length_cons, List.length_nil, iv_length]) (by first | rfl | simp only [List.length_append, List.length_cons, List.length_nil, iv_length]) (by intro u hu; simp only [List.mem_append, List.mem_singleton] at hu; rcases hu with hu | hu <;> first | exact one_iv _ _ u hu | (subst hu; rfl)) ?_
    intro w_144 st_145
    replace st_145 : St w w_144 (.cells B_140 (([.int .i64 a_128_0] : Cells) ++ ([.slice A_129_1 n_130_1 c_131_1] : Cells)) 39 :: .cells b_10 (([.int .i64 a_110_0] : Cells) ++ ([.slice A_111_1 n_112_1 c_113_1] : Cells)) 57 :: .sl A_111_1 c_113_1 n_112_1 x_115_1 60 3 :: .sl A_98 c_99 n_100 (iv .u8 r_97) 5 1 :: .cells B_87 (([.int .i64 ((gx l1 (x_64.toNat)).1)] : Cells) ++ (([.int .u64 ((gx l1 (x_64.toNat)).2.1)] : Cells) ++ (([.slice A_82 n_83 c_84] : Cells) ++ ([.bool ((gx l1 (x_64.toNat)).2.2.2)] : Cells)))) 41 :: .cells B_22 (([.int .i64 x_56] : Cells) ++ ([.slice A_57 n_58 c_59] : Cells)) 39 :: (T_125 ++ R)) := by have e_ : (([.int .i64 a_128_0] : Cells) ++ ([.slice A_129_1 n_130_1 c_131_1] : Cells)) = (([] : Cells)) ++ ((([.int .i64 a_128_0] : Cells) ++ ([.slice A_129_1 n_130_1 c_131_1] : Cells)) ++ (([] : Cells))) := (by first | rfl | simp only [List.append_assoc, List.append_nil, List.nil_append, List.cons_append]); have h_ : St w w_144 (.cells B_140 ((([] : Cells)) ++ ((([.int .i64 a_128_0] : Cells) ++ ([.slice A_129_1 n_130_1 c_131_1] : Cells)) ++ (([] : Cells)))) 39 :: .cells b_10 (([.int .i64 a_110_0] : Cells) ++ ([.slice A_111_1 n_112_1 c_113_1] : Cells)) 57 :: .sl A_111_1 c_113_1 n_112_1 x_115_1 60 3 :: .sl A_98 c_99 n_100 (iv .u8 r_97) 5 1 :: .cells B_87 (([.int .i64 ((gx l1 (x_64.toNat)).1)] : Cells) ++ (([.int .u64 ((gx l1 (x_64.toNat)).2.1)] : Cells) ++ (([.slice A_82 n_83 c_84] : Cells) ++ ([.bool ((gx l1 (x_64.toNat)).2.2.2)] : Cells)))) 41 :: .cells B_22 (([.int .i64 x_56] : Cells) ++ ([.slice A_57 n_58 c_59] : Cells)) 39 :: (T_125 ++ R)) := st_145; rw [← e_] at h_; exact h_
    refine WL.val Wanted.none (Runs.assign rfl) ?_
    refine WL.nil ?_
    refine QW.then_n ?_
    refine CW.seq ?_
    refine CW.region ?_
    refine WL.val Wanted.none (Runs.load_mid row39 rfl st_145 (i := 0) rfl (part_mid (pre := (([] : Cells))) (mid := (([.int .i64 a_128_0] : Cells) ++ ([.slice A_129_1 n_130_1 c_131_1] : Cells))) (post := (([] : Cells))) (by first | rfl | simp only [List.append_assoc, List.append_nil, List.nil_append, List.cons_append]) (by first | rfl | simp only [List.length_append, List.length_cons, List.length_nil, iv_length]) (by first | rfl | simp only [List.length_append, List.length_cons, List.length_nil, iv_length])) (by first | rfl | simp only [List.length_append, List.length_cons, List.length_nil, iv_length])) ?_
    refine WL.store_mid (i := 5) (pre := (([] : Cells))) (mid := (([.int .i64 x_56] : Cells) ++ ([.slice A_57 n_58 c_59] : Cells))) (post := (([] : Cells))) (ms := (([.int .i64 a_128_0] : Cells) ++ ([.slice A_129_1 n_130_1 c_131_1] : Cells))) st_145 rfl row39 (by first | rfl | simp only [List.append_assoc, List.append_nil, List.nil_append, List.cons_append]) (by first | rfl | simp only [List.length_append, List.length_cons, List.length_nil, iv_length]) rfl rfl (by first | rfl | simp only [List.length_append, List.length_cons, List.length_nil, iv_length]) (by first | rfl | simp only [List.length_append, List.length_cons, List.length_nil, iv_length]) (by intro u hu; simp only [List.mem_append, List.mem_singleton] at hu; rcases hu with hu | hu <;> first | exact one_iv _ _ u hu | (subst hu; rfl)) ?_
    intro w_146 st_147
    replace st_147 : St w w_146 (.cells B_140 (([.int .i64 a_128_0] : Cells) ++ ([.slice A_129_1 n_130_1 c_131_1] : Cells)) 39 :: .cells b_10 (([.int .i64 a_110_0] : Cells) ++ ([.slice A_111_1 n_112_1 c_113_1] : Cells)) 57 :: .sl A_111_1 c_113_1 n_112_1 x_115_1 60 3 :: .sl A_98 c_99 n_100 (iv .u8 r_97) 5 1 :: .cells B_87 (([.int .i64 ((gx l1 (x_64.toNat)).1)] : Cells) ++ (([.int .u64 ((gx l1 (x_64.toNat)).2.1)] : Cells) ++ (([.slice A_82 n_83 c_84] : Cells) ++ ([.bool ((gx l1 (x_64.toNat)).2.2.2)] : Cells)))) 41 :: .cells B_22 (([.int .i64 a_128_0] : Cells) ++ ([.slice A_129_1 n_130_1 c_131_1] : Cells)) 39 :: (T_125 ++ R)) := by have e_ : (([.int .i64 a_128_0] : Cells) ++ ([.slice A_129_1 n_130_1 c_131_1] : Cells)) = (([] : Cells)) ++ ((([.int .i64 a_128_0] : Cells) ++ ([.slice A_129_1 n_130_1 c_131_1] : Cells)) ++ (([] : Cells))) := (by first | rfl | simp only [List.append_assoc, List.append_nil, List.nil_append, List.cons_append]); have h_ : St w w_146 (.cells B_140 (([.int .i64 a_128_0] : Cells) ++ ([.slice A_129_1 n_130_1 c_131_1] : Cells)) 39 :: .cells b_10 (([.int .i64 a_110_0] : Cells) ++ ([.slice A_111_1 n_112_1 c_113_1] : Cells)) 57 :: .sl A_111_1 c_113_1 n_112_1 x_115_1 60 3 :: .sl A_98 c_99 n_100 (iv .u8 r_97) 5 1 :: .cells B_87 (([.int .i64 ((gx l1 (x_64.toNat)).1)] : Cells) ++ (([.int .u64 ((gx l1 (x_64.toNat)).2.1)] : Cells) ++ (([.slice A_82 n_83 c_84] : Cells) ++ ([.bool ((gx l1 (x_64.toNat)).2.2.2)] : Cells)))) 41 :: .cells B_22 ((([] : Cells)) ++ ((([.int .i64 a_128_0] : Cells) ++ ([.slice A_129_1 n_130_1 c_131_1] : Cells)) ++ (([] : Cells)))) 39 :: (T_125 ++ R)) := st_147; rw [← e_] at h_; exact h_
    refine WL.nil ?_
    refine QW.then_n ?_
    refine CW.region ?_
    refine WL.val Wanted.none (Runs.move rfl) ?_
    refine WL.val Wanted.none (Runs.move rfl) ?_
    refine WL.val Wanted.none (Runs.eql rfl rfl rfl) ?_
    refine WL.val Wanted.none (Runs.assign rfl) ?_
    refine WL.nil ?_
    refine QW.blk_n ?_
    refine QW.then_n ?_
    refine CW.seq ?_
    refine CW.region ?_
    refine WL.val Wanted.none (Runs.move rfl) ?_
    have st_148 := (St.pickT (L := [_, _, _, _, _, _]) st_147 [1, 2, 0, 3, 4, 5] (by decide))
    replace st_148 : St w w_146 (.cells b_10 (([.int .i64 a_110_0] : Cells) ++ ([.slice A_111_1 n_112_1 c_113_1] : Cells)) 57 :: .sl A_111_1 c_113_1 n_112_1 x_115_1 60 3 :: .cells B_140 (([.int .i64 a_128_0] : Cells) ++ ([.slice A_129_1 n_130_1 c_131_1] : Cells)) 39 :: .sl A_98 c_99 n_100 (iv .u8 r_97) 5 1 :: .cells B_87 (([.int .i64 ((gx l1 (x_64.toNat)).1)] : Cells) ++ (([.int .u64 ((gx l1 (x_64.toNat)).2.1)] : Cells) ++ (([.slice A_82 n_83 c_84] : Cells) ++ ([.bool ((gx l1 (x_64.toNat)).2.2.2)] : Cells)))) 41 :: .cells B_22 (([.int .i64 a_128_0] : Cells) ++ ([.slice A_129_1 n_130_1 c_131_1] : Cells)) 39 :: (T_125 ++ R)) := st_148
    have st_149 : St w w_146 (.cells b_10 (([.int .i64 a_110_0] : Cells) ++ ([.slice A_111_1 n_112_1 c_113_1] : Cells)) 57 :: .sl A_111_1 c_113_1 n_112_1 x_115_1 60 3 :: (T_125 ++ (.cells B_140 (([.int .i64 a_128_0] : Cells) ++ ([.slice A_129_1 n_130_1 c_131_1] : Cells)) 39 :: .sl A_98 c_99 n_100 (iv .u8 r_97) 5 1 :: .cells B_87 (([.int .i64 ((gx l1 (x_64.toNat)).1)] : Cells) ++ (([.int .u64 ((gx l1 (x_64.toNat)).2.1)] : Cells) ++ (([.slice A_82 n_83 c_84] : Cells) ++ ([.bool ((gx l1 (x_64.toNat)).2.2.2)] : Cells)))) 41 :: .cells B_22 (([.int .i64 a_128_0] : Cells) ++ ([.slice A_129_1 n_130_1 c_131_1] : Cells)) 39 :: R))) := St.hide (A := [_, _]) (B := [_, _, _, _]) (T := T_125) (R := R) st_148
    obtain ⟨a_153_0, l_157_1, l_165, hr_150, H⟩ := H
    refine WL.call Wanted.none ent13 rfl (buffers_Cache_Blocks.calls w w_146 T_125 (.cells B_140 (([.int .i64 a_128_0] : Cells) ++ ([.slice A_129_1 n_130_1 c_131_1] : Cells)) 39 :: .sl A_98 c_99 n_100 (iv .u8 r_97) 5 1 :: .cells B_87 (([.int .i64 ((gx l1 (x_64.toNat)).1)] : Cells) ++ (([.int .u64 ((gx l1 (x_64.toNat)).2.1)] : Cells) ++ (([.slice A_82 n_83 c_84] : Cells) ++ ([.bool ((gx l1 (x_64.toNat)).2.2.2)] : Cells)))) 41 :: .cells B_22 (([.int .i64 a_128_0] : Cells) ++ ([.slice A_129_1 n_130_1 c_131_1] : Cells)) 39 :: R) a_110_0 l_114_1 b_10 A_111_1 n_112_1 c_113_1 x_115_1  st_149 (hn_116_1) (hx_117_1.mono (fun _ h_ => hs_126.1 _ h_)) a_153_0 l_157_1 l_165 hr_150) ?_
    rintro _ w_168 ⟨T_151, A_154_1, n_155_1, c_156_1, x_158_1, A_162, n_163, c_164, hs_152, hn_159_1, hx_160_1, hn_167, rfl, sc_170⟩
    have st_169 : St w w_168 (.cells b_10 (([.int .i64 a_153_0] : Cells) ++ ([.slice A_154_1 n_155_1 c_156_1] : Cells)) 57 :: .sl A_154_1 c_156_1 n_155_1 x_158_1 60 3 :: .sl A_162 c_164 n_163 (iv .u64 l_165) 29 1 :: .cells B_140 (([.int .i64 a_128_0] : Cells) ++ ([.slice A_129_1 n_130_1 c_131_1] : Cells)) 39 :: .sl A_98 c_99 n_100 (iv .u8 r_97) 5 1 :: .cells B_87 (([.int .i64 ((gx l1 (x_64.toNat)).1)] : Cells) ++ (([.int .u64 ((gx l1 (x_64.toNat)).2.1)] : Cells) ++ (([.slice A_82 n_83 c_84] : Cells) ++ ([.bool ((gx l1 (x_64.toNat)).2.2.2)] : Cells)))) 41 :: .cells B_22 (([.int .i64 a_128_0] : Cells) ++ ([.slice A_129_1 n_130_1 c_131_1] : Cells)) 39 :: (T_151 ++ R)) := St.unhide (A := [_, _, _]) (B := [_, _, _, _]) (T := T_151) (R := R) sc_170
    refine ⟨_, rfl, ?_⟩
    refine WL.val Wanted.none (Runs.assign rfl) ?_
    refine WL.nil ?_
    refine QW.then_n ?_
    refine CW.seq ?_
    refine CW.seq ?_
    refine CW.region ?_
    refine WL.val Wanted.none (Runs.move rfl) ?_
    refine WL.val Wanted.none (Runs.not rfl rfl) ?_
    refine WL.val Wanted.none (Runs.move rfl) ?_
    obtain ⟨c_171, H⟩ := H
    have h_172 : (!(a_119 == a_136)) = false := (not_f (beq_iff_eq.mpr (Decidable.not_not.mp c_171)))
    refine WL.on ?_ ?_; exact Wanted.guard (dj := 169) (by rfl) (evb (by rfl) h_172) (by rfl)
    refine WL.val Wanted.none (Runs.move rfl) ?_
    refine WL.on ?_ ?_; exact Wanted.guard (dj := 169) (by rfl) (evb (by rfl) h_172) (by rfl)
    refine WL.val Wanted.none (Runs.len_sl Try.underlying33 rfl (by rw [hn_167])) ?_
    refine WL.on ?_ ?_; exact Wanted.guard (dj := 169) (by rfl) (evb (by rfl) h_172) (by rfl)
    refine WL.val Wanted.none (Runs.fieldAddr (off := 1) (p := 1) fld39_1 rfl rfl rfl) ?_
    refine WL.on ?_ ?_; exact Wanted.guard (dj := 169) (by rfl) (evb (by rfl) h_172) (by rfl)
    refine WL.val Wanted.none (Runs.load nagg37 rfl (st_169.cell (k := 6) rfl (part_one (u := .slice A_129_1 n_130_1 c_131_1) (pre := (([.int .i64 a_128_0] : Cells))) (post := (([] : Cells))) (by first | rfl | simp only [List.append_assoc, List.append_nil, List.nil_append, List.cons_append]) (by first | rfl | simp only [List.length_append, List.length_cons, List.length_nil, iv_length])))) ?_
    refine WL.on ?_ ?_; exact Wanted.guard (dj := 169) (by rfl) (evb (by rfl) h_172) (by rfl)
    refine WL.val Wanted.none (Runs.len_sl Try.underlying37 rfl (by rw [hb_134_1.1])) ?_
    refine WL.on ?_ ?_; exact Wanted.guard (dj := 169) (by rfl) (evb (by rfl) h_172) (by rfl)
    refine WL.val Wanted.none (Runs.neq rfl rfl rfl) ?_
    refine WL.val Wanted.none (Runs.pick_f (evb rfl h_172) rfl) ?_
    refine WL.nil ?_
    refine QW.then_n ?_
    obtain ⟨c_173, H⟩ := H
    have h_174 : ((l_165.length : Int) != (l_132_1.length : Int)) = false := (bne_eq_false_iff_eq.mpr (Decidable.not_not.mp c_173))
    refine CW.cf rfl h_174 ?_
    refine CW.skip ?_
    refine QW.then_n ?_
    refine CW.seq ?_
    refine CW.region ?_
    refine WL.val Wanted.none (Runs.assign rfl) ?_
    refine WL.nil ?_
    refine QW.then_n ?_
    refine CW.block ?_
    obtain ⟨k_175, H⟩ := H
    refine CW.sub [(1, .slice A1 n1 c1), (4, .bool b_63), (6, .pointer (some ⟨b_10, 0, none⟩)), (7, .pointer (some ⟨B_22, 0, none⟩)), (8, .int .i64 x_64), (38, .int .i64 x_64), (39, .slice A1 n1 c1), (40, .int .i64 (l1.length : Int)), (41, .bool (decide (x_64 < (l1.length : Int)))), (42, .bool (decide (x_64 < (l1.length : Int)))), (43, .int .i64 x_64), (44, .bool (decide (x_64 < 60))), (45, .bool (decide (x_64 < 60))), (48, .slice A1 n1 c1), (49, .int .i64 x_64), (50, .pointer (some (a_77.add ((x_64.toNat) * 4)))), (51, .agg (([.int .i64 ((gx l1 (x_64.toNat)).1)] : Cells) ++ (([.int .u64 ((gx l1 (x_64.toNat)).2.1)] : Cells) ++ (([.slice A_82 n_83 c_84] : Cells) ++ ([.bool ((gx l1 (x_64.toNat)).2.2.2)] : Cells)))).toArray), (9, .pointer (some ⟨B_87, 0, none⟩)), (52, .pointer (some ⟨B_87, 2, none⟩)), (53, .slice A_82 n_83 c_84), (54, .pointer (some ⟨B_87, 3, none⟩)), (55, .bool ((gx l1 (x_64.toNat)).2.2.2)), (56, .slice A_98 n_100 c_99), (10, .slice A_98 n_100 c_99), (11, .bool (a_119 == a_136)), (57, .pointer (some ⟨B_87, 0, none⟩)), (58, .int .i64 ((gx l1 (x_64.toNat)).1)), (59, .int .i64 (bits .and .i64 ((gx l1 (x_64.toNat)).1) 7)), (66, .bool ((bits .and .i64 ((gx l1 (x_64.toNat)).1) 7) == 0)), (65, .bool ((bits .and .i64 ((gx l1 (x_64.toNat)).1) 7) == 0)), (68, .pointer (some ⟨b_10, 0, none⟩)), (69, .pointer (some ⟨B_87, 1, none⟩)), (70, .int .u64 ((gx l1 (x_64.toNat)).2.1)), (71, .slice A_98 n_100 c_99), (72, .int .i64 a_119), (12, .int .i64 a_119), (74, .agg (([.int .i64 x_56] : Cells) ++ ([.slice A_57 n_58 c_59] : Cells)).toArray), (75, .pointer (some ⟨B_87, 1, none⟩)), (76, .int .u64 ((gx l1 (x_64.toNat)).2.1)), (77, .slice A_98 n_100 c_99), (78, .string (strOfNums r_97)), (79, .tuple #[.agg (([.int .i64 a_128_0] : Cells) ++ ([.slice A_129_1 n_130_1 c_131_1] : Cells)).toArray, .int .i64 a_136]), (73, .tuple #[.agg (([.int .i64 a_128_0] : Cells) ++ ([.slice A_129_1 n_130_1 c_131_1] : Cells)).toArray, .int .i64 a_136]), (80, .agg (([.int .i64 a_128_0] : Cells) ++ ([.slice A_129_1 n_130_1 c_131_1] : Cells)).toArray), (81, .int .i64 a_136), (13, .pointer (some ⟨B_140, 0, none⟩)), (14, .int .i64 a_136), (82, .agg (([.int .i64 a_128_0] : Cells) ++ ([.slice A_129_1 n_130_1 c_131_1] : Cells)).toArray), (83, .int .i64 a_119), (84, .int .i64 a_136), (85, .bool (a_119 == a_136)), (165, .pointer (some ⟨b_10, 0, none⟩)), (166, .slice A_162 n_163 c_164), (29, .slice A_162 n_163 c_164), (167, .bool (a_119 == a_136)), (168, .bool (!(a_119 == a_136))), (169, .bool (!(a_119 == a_136))), (170, .slice A_162 n_163 c_164), (171, .int .i64 (l_165.length : Int)), (172, .pointer (some ⟨B_22, 1, none⟩)), (173, .slice A_129_1 n_130_1 c_131_1), (174, .int .i64 (l_132_1.length : Int)), (175, .bool ((l_165.length : Int) != (l_132_1.length : Int))), (176, .bool ((l_165.length : Int) != (l_132_1.length : Int))), (30, .int .i64 0)] (by repeat' constructor) ?_
    refine CW.loop (fun kL2 l_ w_ => ∃ (T_176 : Pool) (b_178 : Bool) (x_179 : Int), l_ = [(1, .slice A1 n1 c1), (4, .bool b_178), (6, .pointer (some ⟨b_10, 0, none⟩)), (7, .pointer (some ⟨B_22, 0, none⟩)), (8, .int .i64 x_64), (38, .int .i64 x_64), (39, .slice A1 n1 c1), (40, .int .i64 (l1.length : Int)), (41, .bool (decide (x_64 < (l1.length : Int)))), (42, .bool (decide (x_64 < (l1.length : Int)))), (43, .int .i64 x_64), (44, .bool (decide (x_64 < 60))), (45, .bool (decide (x_64 < 60))), (48, .slice A1 n1 c1), (49, .int .i64 x_64), (50, .pointer (some (a_77.add ((x_64.toNat) * 4)))), (51, .agg (([.int .i64 ((gx l1 (x_64.toNat)).1)] : Cells) ++ (([.int .u64 ((gx l1 (x_64.toNat)).2.1)] : Cells) ++ (([.slice A_82 n_83 c_84] : Cells) ++ ([.bool ((gx l1 (x_64.toNat)).2.2.2)] : Cells)))).toArray), (9, .pointer (some ⟨B_87, 0, none⟩)), (52, .pointer (some ⟨B_87, 2, none⟩)), (53, .slice A_82 n_83 c_84), (54, .pointer (some ⟨B_87, 3, none⟩)), (55, .bool ((gx l1 (x_64.toNat)).2.2.2)), (56, .slice A_98 n_100 c_99), (10, .slice A_98 n_100 c_99), (11, .bool (a_119 == a_136)), (57, .pointer (some ⟨B_87, 0, none⟩)), (58, .int .i64 ((gx l1 (x_64.toNat)).1)), (59, .int .i64 (bits .and .i64 ((gx l1 (x_64.toNat)).1) 7)), (66, .bool ((bits .and .i64 ((gx l1 (x_64.toNat)).1) 7) == 0)), (65, .bool ((bits .and .i64 ((gx l1 (x_64.toNat)).1) 7) == 0)), (68, .pointer (some ⟨b_10, 0, none⟩)), (69, .pointer (some ⟨B_87, 1, none⟩)), (70, .int .u64 ((gx l1 (x_64.toNat)).2.1)), (71, .slice A_98 n_100 c_99), (72, .int .i64 a_119), (12, .int .i64 a_119), (74, .agg (([.int .i64 x_56] : Cells) ++ ([.slice A_57 n_58 c_59] : Cells)).toArray), (75, .pointer (some ⟨B_87, 1, none⟩)), (76, .int .u64 ((gx l1 (x_64.toNat)).2.1)), (77, .slice A_98 n_100 c_99), (78, .string (strOfNums r_97)), (79, .tuple #[.agg (([.int .i64 a_128_0] : Cells) ++ ([.slice A_129_1 n_130_1 c_131_1] : Cells)).toArray, .int .i64 a_136]), (73, .tuple #[.agg (([.int .i64 a_128_0] : Cells) ++ ([.slice A_129_1 n_130_1 c_131_1] : Cells)).toArray, .int .i64 a_136]), (80, .agg (([.int .i64 a_128_0] : Cells) ++ ([.slice A_129_1 n_130_1 c_131_1] : Cells)).toArray), (81, .int .i64 a_136), (13, .pointer (some ⟨B_140, 0, none⟩)), (14, .int .i64 a_136), (82, .agg (([.int .i64 a_128_0] : Cells) ++ ([.slice A_129_1 n_130_1 c_131_1] : Cells)).toArray), (83, .int .i64 a_119), (84, .int .i64 a_136), (85, .bool (a_119 == a_136)), (165, .pointer (some ⟨b_10, 0, none⟩)), (166, .slice A_162 n_163 c_164), (29, .slice A_162 n_163 c_164), (167, .bool (a_119 == a_136)), (168, .bool (!(a_119 == a_136))), (169, .bool (!(a_119 == a_136))), (170, .slice A_162 n_163 c_164), (171, .int .i64 (l_165.length : Int)), (172, .pointer (some ⟨B_22, 1, none⟩)), (173, .slice A_129_1 n_130_1 c_131_1), (174, .int .i64 (l_132_1.length : Int)), (175, .bool ((l_165.length : Int) != (l_132_1.length : Int))), (176, .bool ((l_165.length : Int) != (l_132_1.length : Int))), (30, .int .i64 x_179)] ∧ reliquarylaw15_BuffersPlays.L2 x_64 a_128_0 l_132_1 a_153_0 l_157_1 l_165 (reliquarylaw15_BuffersPlays.L1 l1 kL1) kL2 b_178 x_179 ∧ (Pl T_151 T_176) ∧ St w w_ (.cells b_10 (([.int .i64 a_153_0] : Cells) ++ ([.slice A_154_1 n_155_1 c_156_1] : Cells)) 57 :: .sl A_154_1 c_156_1 n_155_1 x_158_1 60 3 :: .sl A_162 c_164 n_163 (iv .u64 l_165) 29 1 :: .cells B_140 (([.int .i64 a_128_0] : Cells) ++ ([.slice A_129_1 n_130_1 c_131_1] : Cells)) 39 :: .sl A_98 c_99 n_100 (iv .u8 r_97) 5 1 :: .cells B_87 (([.int .i64 ((gx l1 (x_64.toNat)).1)] : Cells) ++ (([.int .u64 ((gx l1 (x_64.toNat)).2.1)] : Cells) ++ (([.slice A_82 n_83 c_84] : Cells) ++ ([.bool ((gx l1 (x_64.toNat)).2.2.2)] : Cells)))) 41 :: .cells B_22 (([.int .i64 a_128_0] : Cells) ++ ([.slice A_129_1 n_130_1 c_131_1] : Cells)) 39 :: (T_176 ++ R))) (k := k_175) ⟨T_151, b_63, 0, rfl, H, Pl.refl, st_169⟩ (fun _ _ h => by obtain ⟨_, _, _, _, h, _⟩ := h; exact h.elim) ?_
    rintro kL2 l_182 w_180 ⟨T_176, b_178, x_179, rfl, H, hs_177, st_181⟩
    refine CW.seq ?_
    refine CW.seq ?_
    refine CW.region ?_
    refine WL.val Wanted.none (Runs.move rfl) ?_
    refine WL.val Wanted.none (Runs.move rfl) ?_
    refine WL.val Wanted.none (Runs.len_sl Try.underlying33 rfl (by rw [hn_167])) ?_
    refine WL.val Wanted.none (Runs.lss rfl rfl rfl) ?_
    refine WL.nil ?_
    refine QW.then_n ?_
    rcases H with ⟨c_183, H⟩ | ⟨c_183, H⟩
    ·have h_184 : (decide (x_179 < (l_165.length : Int))) = true := (decide_eq_true c_183)
     refine CW.ct rfl h_184 ?_
     refine CW.skip ?_
     refine QW.then_n ?_
     refine CW.seq ?_
     refine CW.block ?_
     refine CW.seq ?_
     refine CW.region_qa wide (by kernel_rfl) st_181 ?_
     refine HL.val Wanted.none (fun wq sq => (Runs.move rfl)) ?_
     refine HL.val Wanted.none (fun wq sq => (Runs.move rfl)) ?_
     obtain ⟨⟨p_185, q_186⟩, H⟩ := H
     obtain ⟨a_187, e_188⟩ := (st_181.src_sl (k := 2) rfl).addr_iv (x_179.toNat) (by omega)
     refine HL.val Wanted.none (fun wq sq => (Runs.indexAddr Try.underlying33 cells29 (by decide) rfl e_188 rfl p_185 (by rw [hn_167]; exact q_186) (o := (x_179).toNat) (by first | rfl | omega))) ?_
     refine HL.val Wanted.none (fun wq sq => (Runs.load nagg29 rfl ((sq.src_sl (k := 2) rfl).cell_iv e_188 (by omega)))) ?_
     refine HL.val Wanted.none (fun wq sq => (Runs.fieldAddr (off := 1) (p := 1) fld39_1 rfl rfl rfl)) ?_
     refine HL.val Wanted.none (fun wq sq => (Runs.load nagg37 rfl (sq.cell (k := 6) rfl (part_one (u := .slice A_129_1 n_130_1 c_131_1) (pre := (([.int .i64 a_128_0] : Cells))) (post := (([] : Cells))) (by first | rfl | simp only [List.append_assoc, List.append_nil, List.nil_append, List.cons_append]) (by first | rfl | simp only [List.length_append, List.length_cons, List.length_nil, iv_length]))))) ?_
     refine HL.val Wanted.none (fun wq sq => (Runs.move rfl)) ?_
     obtain ⟨⟨p_189, q_190⟩, H⟩ := H
     obtain ⟨x_191, hs_192, hr_193⟩ := hb_134_1.2.2
     obtain ⟨a_194, e_195, ms_196, hc_197, hm_198⟩ := el_get (i := (x_179).toNat) ((hs_192.at st_181 (mem_T (A := [_, _, _, _, _, _, _]) (fun _ h_ => hs_177.1 _ (hs_152.1 _ h_))))) (hr_193.mono (fun _ h_ => hs_177.1 _ (hs_152.1 _ h_))) (fz51 w) (by decide) (by omega)
     obtain em_199 := inv51 hm_198
     replace em_199 : ms_196 = ([.int .u64 ((gx l_132_1 (x_179.toNat)).1)] : Cells) ++ (([.string ((gx l_132_1 (x_179.toNat)).2.1)] : Cells) ++ ([.int .i64 ((gx l_132_1 (x_179.toNat)).2.2)] : Cells)) := em_199
     subst em_199
     refine HL.val Wanted.none (fun wq sq => (Runs.indexAddr Try.underlying37 cells51 (by decide) rfl e_195 rfl p_189 (by rw [show n_130_1 = l_132_1.length from hb_134_1.1]; exact q_190) (o := (x_179.toNat) * 3) (by first | rfl | omega))) ?_
     refine HL.val Wanted.none (fun wq sq => (Runs.fieldAddrB (off := 0) fld51_0 rfl rfl rfl)) ?_
     refine HL.val Wanted.none (fun wq sq => (Runs.load nagg29 rfl (Src.cellAt (j := 0) (Src.cut ((hs_192.at sq (mem_T (A := [_, _, _, _, _, _, _]) (fun _ h_ => hs_177.1 _ (hs_152.1 _ h_))))) e_195 hc_197) rfl))) ?_
     refine HL.val Wanted.none (fun wq sq => (Runs.neq rfl rfl rfl)) ?_
     refine HL.nil (fun w_200 st_201 => ?_)
     refine WL.nil ?_
     refine QW.then_n ?_
     obtain ⟨c_202, H⟩ := H
     have h_203 : ((gn l_165 (x_179.toNat)) != ((gx l_132_1 (x_179.toNat)).1)) = false := (bne_eq_false_iff_eq.mpr (Decidable.not_not.mp c_202))
     refine CW.cf rfl h_203 ?_
     refine CW.skip ?_
     refine QW.blk_n ?_
     refine QW.then_n ?_
     refine CW.region ?_
     refine WL.val Wanted.none (Runs.move rfl) ?_
     refine WL.val Wanted.none (Runs.add rfl rfl rfl) ?_
     refine WL.val Wanted.none (Runs.assign rfl) ?_
     refine WL.nil ?_
     exact QW.at _ (by repeat' constructor) ⟨T_176, b_178, IntKind.i64.wrap (x_179 + 1), rfl, H, hs_177, st_201⟩
    ·have h_184 : (decide (x_179 < (l_165.length : Int))) = false := (decide_eq_false c_183)
     refine CW.cf rfl h_184 ?_
     refine CW.exit ?_
     refine QW.then_x ?_
     refine QW.then_x ?_
     refine QW.blk_x ?_
     refine QW.blk_n ?_
     refine QW.then_n ?_
     refine CW.region ?_
     refine WL.val Wanted.none (Runs.move rfl) ?_
     refine WL.val Wanted.none (Runs.add rfl rfl rfl) ?_
     refine WL.val Wanted.none (Runs.assign rfl) ?_
     refine WL.nil ?_
     have st_181' := (St.pickT (L := [_, _, _, _, _, _, _]) st_181 [6, 0, 1] (by decide))
     exact QW.at _ (by repeat' constructor) ⟨T_176, A_154_1, c_156_1, n_155_1, x_158_1, l_157_1, a_128_0, A_129_1, n_130_1, c_131_1, l_132_1, a_153_0, b_178, IntKind.i64.wrap (x_64 + 1), rfl, H, ((((hs_48.trans hs_109).trans hs_126).trans hs_152).trans hs_177), hn_159_1, (hx_160_1.mono (fun _ h_ => hs_177.1 _ h_)), (hb_134_1.mono (fun _ h_ => hs_177.1 _ (hs_152.1 _ h_)) (fun _ h_ => hs_177.1 _ (hs_152.1 _ h_))), st_181'⟩
   ·have h_104 : ((bits .and .i64 ((gx l1 (x_64.toNat)).1) 7) == 0) = false := (beq_eq_false_iff_ne.mpr c_103)
    refine CW.cf rfl h_104 ?_
    refine CW.region ?_
    refine WL.val Wanted.none (Runs.eql rfl rfl rfl) ?_
    refine WL.val Wanted.none (Runs.assign rfl) ?_
    refine WL.nil ?_
    refine QW.then_n ?_
    rcases H with ⟨c_204, H⟩ | ⟨c_204, H⟩
    ·have h_205 : ((bits .and .i64 ((gx l1 (x_64.toNat)).1) 7) == 1) = true := (beq_iff_eq.mpr c_204)
     refine CW.ct rfl h_205 ?_
     refine CW.seq ?_
     refine CW.region ?_
     refine WL.val Wanted.none (Runs.move rfl) ?_
     refine WL.val Wanted.none (Runs.fieldAddr (off := 1) (p := 1) fld41_1 rfl rfl rfl) ?_
     refine WL.val Wanted.none (Runs.load nagg29 rfl (st_95.cell (k := 1) rfl (part_one (u := .int .u64 ((gx l1 (x_64.toNat)).2.1)) (pre := (([.int .i64 ((gx l1 (x_64.toNat)).1)] : Cells))) (post := (([.slice A_82 n_83 c_84] : Cells) ++ ([.bool ((gx l1 (x_64.toNat)).2.2.2)] : Cells))) (by first | rfl | simp only [List.append_assoc, List.append_nil, List.nil_append, List.cons_append]) (by first | rfl | simp only [List.length_append, List.length_cons, List.length_nil, iv_length])))) ?_
     refine WL.val Wanted.none (Runs.move rfl) ?_
     have st_206 := (St.pickT (L := [_, _, _, _, _]) st_95 [3, 4, 0, 1, 2] (by decide))
     replace st_206 : St w w_94 (.cells b_10 (([.int .i64 x_62] : Cells) ++ ([.slice A_53 n_55 c_54] : Cells)) 57 :: .sl A_53 c_54 n_55 x_51 60 3 :: .sl A_98 c_99 n_100 (iv .u8 r_97) 5 1 :: .cells B_87 (([.int .i64 ((gx l1 (x_64.toNat)).1)] : Cells) ++ (([.int .u64 ((gx l1 (x_64.toNat)).2.1)] : Cells) ++ (([.slice A_82 n_83 c_84] : Cells) ++ ([.bool ((gx l1 (x_64.toNat)).2.2.2)] : Cells)))) 41 :: .cells B_22 (([.int .i64 x_56] : Cells) ++ ([.slice A_57 n_58 c_59] : Cells)) 39 :: (T_47 ++ R)) := st_206
     have st_207 : St w w_94 (.cells b_10 (([.int .i64 x_62] : Cells) ++ ([.slice A_53 n_55 c_54] : Cells)) 57 :: .sl A_53 c_54 n_55 x_51 60 3 :: (T_47 ++ (.sl A_98 c_99 n_100 (iv .u8 r_97) 5 1 :: .cells B_87 (([.int .i64 ((gx l1 (x_64.toNat)).1)] : Cells) ++ (([.int .u64 ((gx l1 (x_64.toNat)).2.1)] : Cells) ++ (([.slice A_82 n_83 c_84] : Cells) ++ ([.bool ((gx l1 (x_64.toNat)).2.2.2)] : Cells)))) 41 :: .cells B_22 (([.int .i64 x_56] : Cells) ++ ([.slice A_57 n_58 c_59] : Cells)) 39 :: R))) := St.hide (A := [_, _]) (B := [_, _, _]) (T := T_47) (R := R) st_206
     obtain ⟨a_211_0, l_215_1, a_220, hr_208, H⟩ := H
     refine WL.call Wanted.none ent11 rfl (buffers_Cache_Put.calls w w_94 T_47 (.sl A_98 c_99 n_100 (iv .u8 r_97) 5 1 :: .cells B_87 (([.int .i64 ((gx l1 (x_64.toNat)).1)] : Cells) ++ (([.int .u64 ((gx l1 (x_64.toNat)).2.1)] : Cells) ++ (([.slice A_82 n_83 c_84] : Cells) ++ ([.bool ((gx l1 (x_64.toNat)).2.2.2)] : Cells)))) 41 :: .cells B_22 (([.int .i64 x_56] : Cells) ++ ([.slice A_57 n_58 c_59] : Cells)) 39 :: R) x_62 l_49 ((gx l1 (x_64.toNat)).2.1) r_97 b_10 A_53 n_55 c_54 x_51 A_98 n_100 c_99 (hs_48.2 (hs_8.2 (hT0.2 (rfl : celly [] = true)))) (show celly (.sl A_98 c_99 n_100 (iv .u8 r_97) 5 1 :: .cells B_87 (([.int .i64 ((gx l1 (x_64.toNat)).1)] : Cells) ++ (([.int .u64 ((gx l1 (x_64.toNat)).2.1)] : Cells) ++ (([.slice A_82 n_83 c_84] : Cells) ++ ([.bool ((gx l1 (x_64.toNat)).2.2.2)] : Cells)))) 41 :: .cells B_22 (([.int .i64 x_56] : Cells) ++ ([.slice A_57 n_58 c_59] : Cells)) 39 :: R) = true from hR) st_207 (hn_50) hx_52 ⟨hn_101, st_206.cap (i := 2) rfl, fun W_ L_ st hT => st.src_mem (hT _ (List.mem_append_right _ (List.mem_of_getElem? (i := 0) rfl)))⟩ a_211_0 l_215_1 a_220 hr_208) ?_
     rintro _ w_221 ⟨T_209, A_212_1, n_213_1, c_214_1, x_216_1, hs_210, hn_217_1, hx_218_1, rfl, sc_223⟩
     have st_222 : St w w_221 (.cells b_10 (([.int .i64 a_211_0] : Cells) ++ ([.slice A_212_1 n_213_1 c_214_1] : Cells)) 57 :: .sl A_212_1 c_214_1 n_213_1 x_216_1 60 3 :: .sl A_98 c_99 n_100 (iv .u8 r_97) 5 1 :: .cells B_87 (([.int .i64 ((gx l1 (x_64.toNat)).1)] : Cells) ++ (([.int .u64 ((gx l1 (x_64.toNat)).2.1)] : Cells) ++ (([.slice A_82 n_83 c_84] : Cells) ++ ([.bool ((gx l1 (x_64.toNat)).2.2.2)] : Cells)))) 41 :: .cells B_22 (([.int .i64 x_56] : Cells) ++ ([.slice A_57 n_58 c_59] : Cells)) 39 :: (T_209 ++ R)) := St.unhide (A := [_, _]) (B := [_, _, _]) (T := T_209) (R := R) sc_223
     refine ⟨_, rfl, ?_⟩
     refine WL.val Wanted.none (Runs.assign rfl) ?_
     refine WL.nil ?_
     refine QW.then_n ?_
     refine CW.seq ?_
     refine CW.region ?_
     refine WL.val Wanted.none (Runs.load_mid row39 rfl st_222 (i := 4) rfl (part_mid (pre := (([] : Cells))) (mid := (([.int .i64 x_56] : Cells) ++ ([.slice A_57 n_58 c_59] : Cells))) (post := (([] : Cells))) (by first | rfl | simp only [List.append_assoc, List.append_nil, List.nil_append, List.cons_append]) (by first | rfl | simp only [List.length_append, List.length_cons, List.length_nil, iv_length]) (by first | rfl | simp only [List.length_append, List.length_cons, List.length_nil, iv_length])) (by first | rfl | simp only [List.length_append, List.length_cons, List.length_nil, iv_length])) ?_
     refine WL.val Wanted.none (Runs.fieldAddr (off := 1) (p := 1) fld41_1 rfl rfl rfl) ?_
     refine WL.val Wanted.none (Runs.load nagg29 rfl (st_222.cell (k := 3) rfl (part_one (u := .int .u64 ((gx l1 (x_64.toNat)).2.1)) (pre := (([.int .i64 ((gx l1 (x_64.toNat)).1)] : Cells))) (post := (([.slice A_82 n_83 c_84] : Cells) ++ ([.bool ((gx l1 (x_64.toNat)).2.2.2)] : Cells))) (by first | rfl | simp only [List.append_assoc, List.append_nil, List.nil_append, List.cons_append]) (by first | rfl | simp only [List.length_append, List.length_cons, List.length_nil, iv_length])))) ?_
     refine WL.val Wanted.none (Runs.move rfl) ?_
     refine WL.val Wanted.none (Runs.bytes_str Try.underlying22 Try.underlying5 Try.underlying9 rfl (st_222.src_sl (k := 2) rfl) hn_101) ?_
     have st_224 : St w w_221 ((T_209 ++ (.cells b_10 (([.int .i64 a_211_0] : Cells) ++ ([.slice A_212_1 n_213_1 c_214_1] : Cells)) 57 :: .sl A_212_1 c_214_1 n_213_1 x_216_1 60 3 :: .sl A_98 c_99 n_100 (iv .u8 r_97) 5 1 :: .cells B_87 (([.int .i64 ((gx l1 (x_64.toNat)).1)] : Cells) ++ (([.int .u64 ((gx l1 (x_64.toNat)).2.1)] : Cells) ++ (([.slice A_82 n_83 c_84] : Cells) ++ ([.bool ((gx l1 (x_64.toNat)).2.2.2)] : Cells)))) 41 :: .cells B_22 (([.int .i64 x_56] : Cells) ++ ([.slice A_57 n_58 c_59] : Cells)) 39 :: R))) := St.hide (A := []) (B := [_, _, _, _, _]) (T := T_209) (R := R) st_222
     obtain ⟨a_229_0, l_233_1, a_237, hr_225, H⟩ := H
     refine WL.call Wanted.none ent14 rfl (reliquaryref15_Put.calls w w_221 T_209 (.cells b_10 (([.int .i64 a_211_0] : Cells) ++ ([.slice A_212_1 n_213_1 c_214_1] : Cells)) 57 :: .sl A_212_1 c_214_1 n_213_1 x_216_1 60 3 :: .sl A_98 c_99 n_100 (iv .u8 r_97) 5 1 :: .cells B_87 (([.int .i64 ((gx l1 (x_64.toNat)).1)] : Cells) ++ (([.int .u64 ((gx l1 (x_64.toNat)).2.1)] : Cells) ++ (([.slice A_82 n_83 c_84] : Cells) ++ ([.bool ((gx l1 (x_64.toNat)).2.2.2)] : Cells)))) 41 :: .cells B_22 (([.int .i64 x_56] : Cells) ++ ([.slice A_57 n_58 c_59] : Cells)) 39 :: R) x_56 l_60 ((gx l1 (x_64.toNat)).2.1) (strOfNums r_97) A_57 n_58 c_59  st_224 (hb_61.mono (fun _ h_ => hs_210.1 _ h_) (fun _ h_ => hs_210.1 _ h_)) a_229_0 l_233_1 a_237 hr_225) ?_
     rintro _ w_238 ⟨T_226, A_230_1, n_231_1, c_232_1, hs_227, hb_235_1, rfl, sc_240⟩
     have st_239 : St w w_238 (.cells b_10 (([.int .i64 a_211_0] : Cells) ++ ([.slice A_212_1 n_213_1 c_214_1] : Cells)) 57 :: .sl A_212_1 c_214_1 n_213_1 x_216_1 60 3 :: .sl A_98 c_99 n_100 (iv .u8 r_97) 5 1 :: .cells B_87 (([.int .i64 ((gx l1 (x_64.toNat)).1)] : Cells) ++ (([.int .u64 ((gx l1 (x_64.toNat)).2.1)] : Cells) ++ (([.slice A_82 n_83 c_84] : Cells) ++ ([.bool ((gx l1 (x_64.toNat)).2.2.2)] : Cells)))) 41 :: .cells B_22 (([.int .i64 x_56] : Cells) ++ ([.slice A_57 n_58 c_59] : Cells)) 39 :: (T_226 ++ R)) := St.unhide (A := []) (B := [_, _, _, _, _]) (T := T_226) (R := R) sc_240
     refine ⟨_, rfl, ?_⟩
     refine WL.val Wanted.none (Runs.move rfl) ?_
     refine WL.val Wanted.none (Runs.extract rfl rfl) ?_
     refine WL.val Wanted.none (Runs.extract rfl rfl) ?_
     refine WL.alloc st_239 zero39 ?_
     intro B_241 w_242 st_243
     replace st_243 : St w w_242 (.cells B_241 (([.int .i64 0] : Cells) ++ ([.slice none 0 0] : Cells)) 39 :: .cells b_10 (([.int .i64 a_211_0] : Cells) ++ ([.slice A_212_1 n_213_1 c_214_1] : Cells)) 57 :: .sl A_212_1 c_214_1 n_213_1 x_216_1 60 3 :: .sl A_98 c_99 n_100 (iv .u8 r_97) 5 1 :: .cells B_87 (([.int .i64 ((gx l1 (x_64.toNat)).1)] : Cells) ++ (([.int .u64 ((gx l1 (x_64.toNat)).2.1)] : Cells) ++ (([.slice A_82 n_83 c_84] : Cells) ++ ([.bool ((gx l1 (x_64.toNat)).2.2.2)] : Cells)))) 41 :: .cells B_22 (([.int .i64 x_56] : Cells) ++ ([.slice A_57 n_58 c_59] : Cells)) 39 :: (T_226 ++ R)) := st_243
     refine WL.store_mid (i := 0) (pre := (([] : Cells))) (mid := (([.int .i64 0] : Cells) ++ ([.slice none 0 0] : Cells))) (post := (([] : Cells))) (ms := (([.int .i64 a_229_0] : Cells) ++ ([.slice A_230_1 n_231_1 c_232_1] : Cells))) st_243 rfl row39 (by first | rfl | simp only [List.append_assoc, List.append_nil, List.nil_append, List.cons_append]) (by first | rfl | simp only [List.length_append, List.length_cons, List.length_nil, iv_length]) rfl rfl (by first | rfl | simp only [List.length_append, List.length_cons, List.length_nil, iv_length]) (by first | rfl | simp only [List.length_append, List.length_cons, List.length_nil, iv_length]) (by intro u hu; simp only [List.mem_append, List.mem_singleton] at hu; rcases hu with hu | hu <;> first | exact one_iv _ _ u hu | (subst hu; rfl)) ?_
     intro w_245 st_246
     replace st_246 : St w w_245 (.cells B_241 (([.int .i64 a_229_0] : Cells) ++ ([.slice A_230_1 n_231_1 c_232_1] : Cells)) 39 :: .cells b_10 (([.int .i64 a_211_0] : Cells) ++ ([.slice A_212_1 n_213_1 c_214_1] : Cells)) 57 :: .sl A_212_1 c_214_1 n_213_1 x_216_1 60 3 :: .sl A_98 c_99 n_100 (iv .u8 r_97) 5 1 :: .cells B_87 (([.int .i64 ((gx l1 (x_64.toNat)).1)] : Cells) ++ (([.int .u64 ((gx l1 (x_64.toNat)).2.1)] : Cells) ++ (([.slice A_82 n_83 c_84] : Cells) ++ ([.bool ((gx l1 (x_64.toNat)).2.2.2)] : Cells)))) 41 :: .cells B_22 (([.int .i64 x_56] : Cells) ++ ([.slice A_57 n_58 c_59] : Cells)) 39 :: (T_226 ++ R)) := by have e_ : (([.int .i64 a_229_0] : Cells) ++ ([.slice A_230_1 n_231_1 c_232_1] : Cells)) = (([] : Cells)) ++ ((([.int .i64 a_229_0] : Cells) ++ ([.slice A_230_1 n_231_1 c_232_1] : Cells)) ++ (([] : Cells))) := (by first | rfl | simp only [List.append_assoc, List.append_nil, List.nil_append, List.cons_append]); have h_ : St w w_245 (.cells B_241 ((([] : Cells)) ++ ((([.int .i64 a_229_0] : Cells) ++ ([.slice A_230_1 n_231_1 c_232_1] : Cells)) ++ (([] : Cells)))) 39 :: .cells b_10 (([.int .i64 a_211_0] : Cells) ++ ([.slice A_212_1 n_213_1 c_214_1] : Cells)) 57 :: .sl A_212_1 c_214_1 n_213_1 x_216_1 60 3 :: .sl A_98 c_99 n_100 (iv .u8 r_97) 5 1 :: .cells B_87 (([.int .i64 ((gx l1 (x_64.toNat)).1)] : Cells) ++ (([.int .u64 ((gx l1 (x_64.toNat)).2.1)] : Cells) ++ (([.slice A_82 n_83 c_84] : Cells) ++ ([.bool ((gx l1 (x_64.toNat)).2.2.2)] : Cells)))) 41 :: .cells B_22 (([.int .i64 x_56] : Cells) ++ ([.slice A_57 n_58 c_59] : Cells)) 39 :: (T_226 ++ R)) := st_246; rw [← e_] at h_; exact h_
     refine WL.val Wanted.none (Runs.assign rfl) ?_
     refine WL.nil ?_
     refine QW.then_n ?_
     refine CW.seq ?_
     refine CW.region ?_
     refine WL.val Wanted.none (Runs.load_mid row39 rfl st_246 (i := 0) rfl (part_mid (pre := (([] : Cells))) (mid := (([.int .i64 a_229_0] : Cells) ++ ([.slice A_230_1 n_231_1 c_232_1] : Cells))) (post := (([] : Cells))) (by first | rfl | simp only [List.append_assoc, List.append_nil, List.nil_append, List.cons_append]) (by first | rfl | simp only [List.length_append, List.length_cons, List.length_nil, iv_length]) (by first | rfl | simp only [List.length_append, List.length_cons, List.length_nil, iv_length])) (by first | rfl | simp only [List.length_append, List.length_cons, List.length_nil, iv_length])) ?_
     refine WL.store_mid (i := 5) (pre := (([] : Cells))) (mid := (([.int .i64 x_56] : Cells) ++ ([.slice A_57 n_58 c_59] : Cells))) (post := (([] : Cells))) (ms := (([.int .i64 a_229_0] : Cells) ++ ([.slice A_230_1 n_231_1 c_232_1] : Cells))) st_246 rfl row39 (by first | rfl | simp only [List.append_assoc, List.append_nil, List.nil_append, List.cons_append]) (by first | rfl | simp only [List.length_append, List.length_cons, List.length_nil, iv_length]) rfl rfl (by first | rfl | simp only [List.length_append, List.length_cons, List.length_nil, iv_length]) (by first | rfl | simp only [List.length_append, List.length_cons, List.length_nil, iv_length]) (by intro u hu; simp only [List.mem_append, List.mem_singleton] at hu; rcases hu with hu | hu <;> first | exact one_iv _ _ u hu | (subst hu; rfl)) ?_
     intro w_247 st_248
     replace st_248 : St w w_247 (.cells B_241 (([.int .i64 a_229_0] : Cells) ++ ([.slice A_230_1 n_231_1 c_232_1] : Cells)) 39 :: .cells b_10 (([.int .i64 a_211_0] : Cells) ++ ([.slice A_212_1 n_213_1 c_214_1] : Cells)) 57 :: .sl A_212_1 c_214_1 n_213_1 x_216_1 60 3 :: .sl A_98 c_99 n_100 (iv .u8 r_97) 5 1 :: .cells B_87 (([.int .i64 ((gx l1 (x_64.toNat)).1)] : Cells) ++ (([.int .u64 ((gx l1 (x_64.toNat)).2.1)] : Cells) ++ (([.slice A_82 n_83 c_84] : Cells) ++ ([.bool ((gx l1 (x_64.toNat)).2.2.2)] : Cells)))) 41 :: .cells B_22 (([.int .i64 a_229_0] : Cells) ++ ([.slice A_230_1 n_231_1 c_232_1] : Cells)) 39 :: (T_226 ++ R)) := by have e_ : (([.int .i64 a_229_0] : Cells) ++ ([.slice A_230_1 n_231_1 c_232_1] : Cells)) = (([] : Cells)) ++ ((([.int .i64 a_229_0] : Cells) ++ ([.slice A_230_1 n_231_1 c_232_1] : Cells)) ++ (([] : Cells))) := (by first | rfl | simp only [List.append_assoc, List.append_nil, List.nil_append, List.cons_append]); have h_ : St w w_247 (.cells B_241 (([.int .i64 a_229_0] : Cells) ++ ([.slice A_230_1 n_231_1 c_232_1] : Cells)) 39 :: .cells b_10 (([.int .i64 a_211_0] : Cells) ++ ([.slice A_212_1 n_213_1 c_214_1] : Cells)) 57 :: .sl A_212_1 c_214_1 n_213_1 x_216_1 60 3 :: .sl A_98 c_99 n_100 (iv .u8 r_97) 5 1 :: .cells B_87 (([.int .i64 ((gx l1 (x_64.toNat)).1)] : Cells) ++ (([.int .u64 ((gx l1 (x_64.toNat)).2.1)] : Cells) ++ (([.slice A_82 n_83 c_84] : Cells) ++ ([.bool ((gx l1 (x_64.toNat)).2.2.2)] : Cells)))) 41 :: .cells B_22 ((([] : Cells)) ++ ((([.int .i64 a_229_0] : Cells) ++ ([.slice A_230_1 n_231_1 c_232_1] : Cells)) ++ (([] : Cells)))) 39 :: (T_226 ++ R)) := st_248; rw [← e_] at h_; exact h_
     refine WL.nil ?_
     refine QW.then_n ?_
     refine CW.region ?_
     refine WL.val Wanted.none (Runs.move rfl) ?_
     refine WL.val Wanted.none (Runs.move rfl) ?_
     refine WL.val Wanted.none (Runs.eql rfl rfl rfl) ?_
     refine WL.val Wanted.none (Runs.assign rfl) ?_
     refine WL.nil ?_
     refine QW.blk_n ?_
     refine QW.then_n ?_
     refine CW.seq ?_
     refine CW.region ?_
     refine WL.val Wanted.none (Runs.move rfl) ?_
     have st_249 := (St.pickT (L := [_, _, _, _, _, _]) st_248 [1, 2, 0, 3, 4, 5] (by decide))
     replace st_249 : St w w_247 (.cells b_10 (([.int .i64 a_211_0] : Cells) ++ ([.slice A_212_1 n_213_1 c_214_1] : Cells)) 57 :: .sl A_212_1 c_214_1 n_213_1 x_216_1 60 3 :: .cells B_241 (([.int .i64 a_229_0] : Cells) ++ ([.slice A_230_1 n_231_1 c_232_1] : Cells)) 39 :: .sl A_98 c_99 n_100 (iv .u8 r_97) 5 1 :: .cells B_87 (([.int .i64 ((gx l1 (x_64.toNat)).1)] : Cells) ++ (([.int .u64 ((gx l1 (x_64.toNat)).2.1)] : Cells) ++ (([.slice A_82 n_83 c_84] : Cells) ++ ([.bool ((gx l1 (x_64.toNat)).2.2.2)] : Cells)))) 41 :: .cells B_22 (([.int .i64 a_229_0] : Cells) ++ ([.slice A_230_1 n_231_1 c_232_1] : Cells)) 39 :: (T_226 ++ R)) := st_249
     have st_250 : St w w_247 (.cells b_10 (([.int .i64 a_211_0] : Cells) ++ ([.slice A_212_1 n_213_1 c_214_1] : Cells)) 57 :: .sl A_212_1 c_214_1 n_213_1 x_216_1 60 3 :: (T_226 ++ (.cells B_241 (([.int .i64 a_229_0] : Cells) ++ ([.slice A_230_1 n_231_1 c_232_1] : Cells)) 39 :: .sl A_98 c_99 n_100 (iv .u8 r_97) 5 1 :: .cells B_87 (([.int .i64 ((gx l1 (x_64.toNat)).1)] : Cells) ++ (([.int .u64 ((gx l1 (x_64.toNat)).2.1)] : Cells) ++ (([.slice A_82 n_83 c_84] : Cells) ++ ([.bool ((gx l1 (x_64.toNat)).2.2.2)] : Cells)))) 41 :: .cells B_22 (([.int .i64 a_229_0] : Cells) ++ ([.slice A_230_1 n_231_1 c_232_1] : Cells)) 39 :: R))) := St.hide (A := [_, _]) (B := [_, _, _, _]) (T := T_226) (R := R) st_249
     obtain ⟨a_254_0, l_258_1, l_266, hr_251, H⟩ := H
     refine WL.call Wanted.none ent13 rfl (buffers_Cache_Blocks.calls w w_247 T_226 (.cells B_241 (([.int .i64 a_229_0] : Cells) ++ ([.slice A_230_1 n_231_1 c_232_1] : Cells)) 39 :: .sl A_98 c_99 n_100 (iv .u8 r_97) 5 1 :: .cells B_87 (([.int .i64 ((gx l1 (x_64.toNat)).1)] : Cells) ++ (([.int .u64 ((gx l1 (x_64.toNat)).2.1)] : Cells) ++ (([.slice A_82 n_83 c_84] : Cells) ++ ([.bool ((gx l1 (x_64.toNat)).2.2.2)] : Cells)))) 41 :: .cells B_22 (([.int .i64 a_229_0] : Cells) ++ ([.slice A_230_1 n_231_1 c_232_1] : Cells)) 39 :: R) a_211_0 l_215_1 b_10 A_212_1 n_213_1 c_214_1 x_216_1  st_250 (hn_217_1) (hx_218_1.mono (fun _ h_ => hs_227.1 _ h_)) a_254_0 l_258_1 l_266 hr_251) ?_
     rintro _ w_269 ⟨T_252, A_255_1, n_256_1, c_257_1, x_259_1, A_263, n_264, c_265, hs_253, hn_260_1, hx_261_1, hn_268, rfl, sc_271⟩
     have st_270 : St w w_269 (.cells b_10 (([.int .i64 a_254_0] : Cells) ++ ([.slice A_255_1 n_256_1 c_257_1] : Cells)) 57 :: .sl A_255_1 c_257_1 n_256_1 x_259_1 60 3 :: .sl A_263 c_265 n_264 (iv .u64 l_266) 29 1 :: .cells B_241 (([.int .i64 a_229_0] : Cells) ++ ([.slice A_230_1 n_231_1 c_232_1] : Cells)) 39 :: .sl A_98 c_99 n_100 (iv .u8 r_97) 5 1 :: .cells B_87 (([.int .i64 ((gx l1 (x_64.toNat)).1)] : Cells) ++ (([.int .u64 ((gx l1 (x_64.toNat)).2.1)] : Cells) ++ (([.slice A_82 n_83 c_84] : Cells) ++ ([.bool ((gx l1 (x_64.toNat)).2.2.2)] : Cells)))) 41 :: .cells B_22 (([.int .i64 a_229_0] : Cells) ++ ([.slice A_230_1 n_231_1 c_232_1] : Cells)) 39 :: (T_252 ++ R)) := St.unhide (A := [_, _, _]) (B := [_, _, _, _]) (T := T_252) (R := R) sc_271
     refine ⟨_, rfl, ?_⟩
     refine WL.val Wanted.none (Runs.assign rfl) ?_
     refine WL.nil ?_
     refine QW.then_n ?_
     refine CW.seq ?_
     refine CW.seq ?_
     refine CW.region ?_
     refine WL.val Wanted.none (Runs.move rfl) ?_
     refine WL.val Wanted.none (Runs.not rfl rfl) ?_
     refine WL.val Wanted.none (Runs.move rfl) ?_
     obtain ⟨c_272, H⟩ := H
     have h_273 : (!(a_220 == a_237)) = false := (not_f (beq_iff_eq.mpr (Decidable.not_not.mp c_272)))
     refine WL.on ?_ ?_; exact Wanted.guard (dj := 169) (by rfl) (evb (by rfl) h_273) (by rfl)
     refine WL.val Wanted.none (Runs.move rfl) ?_
     refine WL.on ?_ ?_; exact Wanted.guard (dj := 169) (by rfl) (evb (by rfl) h_273) (by rfl)
     refine WL.val Wanted.none (Runs.len_sl Try.underlying33 rfl (by rw [hn_268])) ?_
     refine WL.on ?_ ?_; exact Wanted.guard (dj := 169) (by rfl) (evb (by rfl) h_273) (by rfl)
     refine WL.val Wanted.none (Runs.fieldAddr (off := 1) (p := 1) fld39_1 rfl rfl rfl) ?_
     refine WL.on ?_ ?_; exact Wanted.guard (dj := 169) (by rfl) (evb (by rfl) h_273) (by rfl)
     refine WL.val Wanted.none (Runs.load nagg37 rfl (st_270.cell (k := 6) rfl (part_one (u := .slice A_230_1 n_231_1 c_232_1) (pre := (([.int .i64 a_229_0] : Cells))) (post := (([] : Cells))) (by first | rfl | simp only [List.append_assoc, List.append_nil, List.nil_append, List.cons_append]) (by first | rfl | simp only [List.length_append, List.length_cons, List.length_nil, iv_length])))) ?_
     refine WL.on ?_ ?_; exact Wanted.guard (dj := 169) (by rfl) (evb (by rfl) h_273) (by rfl)
     refine WL.val Wanted.none (Runs.len_sl Try.underlying37 rfl (by rw [hb_235_1.1])) ?_
     refine WL.on ?_ ?_; exact Wanted.guard (dj := 169) (by rfl) (evb (by rfl) h_273) (by rfl)
     refine WL.val Wanted.none (Runs.neq rfl rfl rfl) ?_
     refine WL.val Wanted.none (Runs.pick_f (evb rfl h_273) rfl) ?_
     refine WL.nil ?_
     refine QW.then_n ?_
     obtain ⟨c_274, H⟩ := H
     have h_275 : ((l_266.length : Int) != (l_233_1.length : Int)) = false := (bne_eq_false_iff_eq.mpr (Decidable.not_not.mp c_274))
     refine CW.cf rfl h_275 ?_
     refine CW.skip ?_
     refine QW.then_n ?_
     refine CW.seq ?_
     refine CW.region ?_
     refine WL.val Wanted.none (Runs.assign rfl) ?_
     refine WL.nil ?_
     refine QW.then_n ?_
     refine CW.block ?_
     obtain ⟨k_276, H⟩ := H
     refine CW.sub [(1, .slice A1 n1 c1), (4, .bool b_63), (6, .pointer (some ⟨b_10, 0, none⟩)), (7, .pointer (some ⟨B_22, 0, none⟩)), (8, .int .i64 x_64), (38, .int .i64 x_64), (39, .slice A1 n1 c1), (40, .int .i64 (l1.length : Int)), (41, .bool (decide (x_64 < (l1.length : Int)))), (42, .bool (decide (x_64 < (l1.length : Int)))), (43, .int .i64 x_64), (44, .bool (decide (x_64 < 60))), (45, .bool (decide (x_64 < 60))), (48, .slice A1 n1 c1), (49, .int .i64 x_64), (50, .pointer (some (a_77.add ((x_64.toNat) * 4)))), (51, .agg (([.int .i64 ((gx l1 (x_64.toNat)).1)] : Cells) ++ (([.int .u64 ((gx l1 (x_64.toNat)).2.1)] : Cells) ++ (([.slice A_82 n_83 c_84] : Cells) ++ ([.bool ((gx l1 (x_64.toNat)).2.2.2)] : Cells)))).toArray), (9, .pointer (some ⟨B_87, 0, none⟩)), (52, .pointer (some ⟨B_87, 2, none⟩)), (53, .slice A_82 n_83 c_84), (54, .pointer (some ⟨B_87, 3, none⟩)), (55, .bool ((gx l1 (x_64.toNat)).2.2.2)), (56, .slice A_98 n_100 c_99), (10, .slice A_98 n_100 c_99), (11, .bool (a_220 == a_237)), (57, .pointer (some ⟨B_87, 0, none⟩)), (58, .int .i64 ((gx l1 (x_64.toNat)).1)), (59, .int .i64 (bits .and .i64 ((gx l1 (x_64.toNat)).1) 7)), (66, .bool ((bits .and .i64 ((gx l1 (x_64.toNat)).1) 7) == 0)), (65, .bool ((bits .and .i64 ((gx l1 (x_64.toNat)).1) 7) == 1)), (67, .bool ((bits .and .i64 ((gx l1 (x_64.toNat)).1) 7) == 1)), (68, .pointer (some ⟨b_10, 0, none⟩)), (69, .pointer (some ⟨B_87, 1, none⟩)), (70, .int .u64 ((gx l1 (x_64.toNat)).2.1)), (71, .slice A_98 n_100 c_99), (72, .int .i64 a_220), (12, .int .i64 a_220), (74, .agg (([.int .i64 x_56] : Cells) ++ ([.slice A_57 n_58 c_59] : Cells)).toArray), (75, .pointer (some ⟨B_87, 1, none⟩)), (76, .int .u64 ((gx l1 (x_64.toNat)).2.1)), (77, .slice A_98 n_100 c_99), (78, .string (strOfNums r_97)), (79, .tuple #[.agg (([.int .i64 a_229_0] : Cells) ++ ([.slice A_230_1 n_231_1 c_232_1] : Cells)).toArray, .int .i64 a_237]), (73, .tuple #[.agg (([.int .i64 a_229_0] : Cells) ++ ([.slice A_230_1 n_231_1 c_232_1] : Cells)).toArray, .int .i64 a_237]), (80, .agg (([.int .i64 a_229_0] : Cells) ++ ([.slice A_230_1 n_231_1 c_232_1] : Cells)).toArray), (81, .int .i64 a_237), (13, .pointer (some ⟨B_241, 0, none⟩)), (14, .int .i64 a_237), (82, .agg (([.int .i64 a_229_0] : Cells) ++ ([.slice A_230_1 n_231_1 c_232_1] : Cells)).toArray), (83, .int .i64 a_220), (84, .int .i64 a_237), (85, .bool (a_220 == a_237)), (165, .pointer (some ⟨b_10, 0, none⟩)), (166, .slice A_263 n_264 c_265), (29, .slice A_263 n_264 c_265), (167, .bool (a_220 == a_237)), (168, .bool (!(a_220 == a_237))), (169, .bool (!(a_220 == a_237))), (170, .slice A_263 n_264 c_265), (171, .int .i64 (l_266.length : Int)), (172, .pointer (some ⟨B_22, 1, none⟩)), (173, .slice A_230_1 n_231_1 c_232_1), (174, .int .i64 (l_233_1.length : Int)), (175, .bool ((l_266.length : Int) != (l_233_1.length : Int))), (176, .bool ((l_266.length : Int) != (l_233_1.length : Int))), (30, .int .i64 0)] (by repeat' constructor) ?_
     refine CW.loop (fun kL3 l_ w_ => ∃ (T_277 : Pool) (b_279 : Bool) (x_280 : Int), l_ = [(1, .slice A1 n1 c1), (4, .bool b_279), (6, .pointer (some ⟨b_10, 0, none⟩)), (7, .pointer (some ⟨B_22, 0, none⟩)), (8, .int .i64 x_64), (38, .int .i64 x_64), (39, .slice A1 n1 c1), (40, .int .i64 (l1.length : Int)), (41, .bool (decide (x_64 < (l1.length : Int)))), (42, .bool (decide (x_64 < (l1.length : Int)))), (43, .int .i64 x_64), (44, .bool (decide (x_64 < 60))), (45, .bool (decide (x_64 < 60))), (48, .slice A1 n1 c1), (49, .int .i64 x_64), (50, .pointer (some (a_77.add ((x_64.toNat) * 4)))), (51, .agg (([.int .i64 ((gx l1 (x_64.toNat)).1)] : Cells) ++ (([.int .u64 ((gx l1 (x_64.toNat)).2.1)] : Cells) ++ (([.slice A_82 n_83 c_84] : Cells) ++ ([.bool ((gx l1 (x_64.toNat)).2.2.2)] : Cells)))).toArray), (9, .pointer (some ⟨B_87, 0, none⟩)), (52, .pointer (some ⟨B_87, 2, none⟩)), (53, .slice A_82 n_83 c_84), (54, .pointer (some ⟨B_87, 3, none⟩)), (55, .bool ((gx l1 (x_64.toNat)).2.2.2)), (56, .slice A_98 n_100 c_99), (10, .slice A_98 n_100 c_99), (11, .bool (a_220 == a_237)), (57, .pointer (some ⟨B_87, 0, none⟩)), (58, .int .i64 ((gx l1 (x_64.toNat)).1)), (59, .int .i64 (bits .and .i64 ((gx l1 (x_64.toNat)).1) 7)), (66, .bool ((bits .and .i64 ((gx l1 (x_64.toNat)).1) 7) == 0)), (65, .bool ((bits .and .i64 ((gx l1 (x_64.toNat)).1) 7) == 1)), (67, .bool ((bits .and .i64 ((gx l1 (x_64.toNat)).1) 7) == 1)), (68, .pointer (some ⟨b_10, 0, none⟩)), (69, .pointer (some ⟨B_87, 1, none⟩)), (70, .int .u64 ((gx l1 (x_64.toNat)).2.1)), (71, .slice A_98 n_100 c_99), (72, .int .i64 a_220), (12, .int .i64 a_220), (74, .agg (([.int .i64 x_56] : Cells) ++ ([.slice A_57 n_58 c_59] : Cells)).toArray), (75, .pointer (some ⟨B_87, 1, none⟩)), (76, .int .u64 ((gx l1 (x_64.toNat)).2.1)), (77, .slice A_98 n_100 c_99), (78, .string (strOfNums r_97)), (79, .tuple #[.agg (([.int .i64 a_229_0] : Cells) ++ ([.slice A_230_1 n_231_1 c_232_1] : Cells)).toArray, .int .i64 a_237]), (73, .tuple #[.agg (([.int .i64 a_229_0] : Cells) ++ ([.slice A_230_1 n_231_1 c_232_1] : Cells)).toArray, .int .i64 a_237]), (80, .agg (([.int .i64 a_229_0] : Cells) ++ ([.slice A_230_1 n_231_1 c_232_1] : Cells)).toArray), (81, .int .i64 a_237), (13, .pointer (some ⟨B_241, 0, none⟩)), (14, .int .i64 a_237), (82, .agg (([.int .i64 a_229_0] : Cells) ++ ([.slice A_230_1 n_231_1 c_232_1] : Cells)).toArray), (83, .int .i64 a_220), (84, .int .i64 a_237), (85, .bool (a_220 == a_237)), (165, .pointer (some ⟨b_10, 0, none⟩)), (166, .slice A_263 n_264 c_265), (29, .slice A_263 n_264 c_265), (167, .bool (a_220 == a_237)), (168, .bool (!(a_220 == a_237))), (169, .bool (!(a_220 == a_237))), (170, .slice A_263 n_264 c_265), (171, .int .i64 (l_266.length : Int)), (172, .pointer (some ⟨B_22, 1, none⟩)), (173, .slice A_230_1 n_231_1 c_232_1), (174, .int .i64 (l_233_1.length : Int)), (175, .bool ((l_266.length : Int) != (l_233_1.length : Int))), (176, .bool ((l_266.length : Int) != (l_233_1.length : Int))), (30, .int .i64 x_280)] ∧ reliquarylaw15_BuffersPlays.L3 x_64 a_229_0 l_233_1 a_254_0 l_258_1 l_266 (reliquarylaw15_BuffersPlays.L1 l1 kL1) kL3 b_279 x_280 ∧ (Pl T_252 T_277) ∧ St w w_ (.cells b_10 (([.int .i64 a_254_0] : Cells) ++ ([.slice A_255_1 n_256_1 c_257_1] : Cells)) 57 :: .sl A_255_1 c_257_1 n_256_1 x_259_1 60 3 :: .sl A_263 c_265 n_264 (iv .u64 l_266) 29 1 :: .cells B_241 (([.int .i64 a_229_0] : Cells) ++ ([.slice A_230_1 n_231_1 c_232_1] : Cells)) 39 :: .sl A_98 c_99 n_100 (iv .u8 r_97) 5 1 :: .cells B_87 (([.int .i64 ((gx l1 (x_64.toNat)).1)] : Cells) ++ (([.int .u64 ((gx l1 (x_64.toNat)).2.1)] : Cells) ++ (([.slice A_82 n_83 c_84] : Cells) ++ ([.bool ((gx l1 (x_64.toNat)).2.2.2)] : Cells)))) 41 :: .cells B_22 (([.int .i64 a_229_0] : Cells) ++ ([.slice A_230_1 n_231_1 c_232_1] : Cells)) 39 :: (T_277 ++ R))) (k := k_276) ⟨T_252, b_63, 0, rfl, H, Pl.refl, st_270⟩ (fun _ _ h => by obtain ⟨_, _, _, _, h, _⟩ := h; exact h.elim) ?_
     rintro kL3 l_283 w_281 ⟨T_277, b_279, x_280, rfl, H, hs_278, st_282⟩
     refine CW.seq ?_
     refine CW.seq ?_
     refine CW.region ?_
     refine WL.val Wanted.none (Runs.move rfl) ?_
     refine WL.val Wanted.none (Runs.move rfl) ?_
     refine WL.val Wanted.none (Runs.len_sl Try.underlying33 rfl (by rw [hn_268])) ?_
     refine WL.val Wanted.none (Runs.lss rfl rfl rfl) ?_
     refine WL.nil ?_
     refine QW.then_n ?_
     rcases H with ⟨c_284, H⟩ | ⟨c_284, H⟩
     ·have h_285 : (decide (x_280 < (l_266.length : Int))) = true := (decide_eq_true c_284)
      refine CW.ct rfl h_285 ?_
      refine CW.skip ?_
      refine QW.then_n ?_
      refine CW.seq ?_
      refine CW.block ?_
      refine CW.seq ?_
      refine CW.region_qa wide (by kernel_rfl) st_282 ?_
      refine HL.val Wanted.none (fun wq sq => (Runs.move rfl)) ?_
      refine HL.val Wanted.none (fun wq sq => (Runs.move rfl)) ?_
      obtain ⟨⟨p_286, q_287⟩, H⟩ := H
      obtain ⟨a_288, e_289⟩ := (st_282.src_sl (k := 2) rfl).addr_iv (x_280.toNat) (by omega)
      refine HL.val Wanted.none (fun wq sq => (Runs.indexAddr Try.underlying33 cells29 (by decide) rfl e_289 rfl p_286 (by rw [hn_268]; exact q_287) (o := (x_280).toNat) (by first | rfl | omega))) ?_
      refine HL.val Wanted.none (fun wq sq => (Runs.load nagg29 rfl ((sq.src_sl (k := 2) rfl).cell_iv e_289 (by omega)))) ?_
      refine HL.val Wanted.none (fun wq sq => (Runs.fieldAddr (off := 1) (p := 1) fld39_1 rfl rfl rfl)) ?_
      refine HL.val Wanted.none (fun wq sq => (Runs.load nagg37 rfl (sq.cell (k := 6) rfl (part_one (u := .slice A_230_1 n_231_1 c_232_1) (pre := (([.int .i64 a_229_0] : Cells))) (post := (([] : Cells))) (by first | rfl | simp only [List.append_assoc, List.append_nil, List.nil_append, List.cons_append]) (by first | rfl | simp only [List.length_append, List.length_cons, List.length_nil, iv_length]))))) ?_
      refine HL.val Wanted.none (fun wq sq => (Runs.move rfl)) ?_
      obtain ⟨⟨p_290, q_291⟩, H⟩ := H
      obtain ⟨x_292, hs_293, hr_294⟩ := hb_235_1.2.2
      obtain ⟨a_295, e_296, ms_297, hc_298, hm_299⟩ := el_get (i := (x_280).toNat) ((hs_293.at st_282 (mem_T (A := [_, _, _, _, _, _, _]) (fun _ h_ => hs_278.1 _ (hs_253.1 _ h_))))) (hr_294.mono (fun _ h_ => hs_278.1 _ (hs_253.1 _ h_))) (fz51 w) (by decide) (by omega)
      obtain em_300 := inv51 hm_299
      replace em_300 : ms_297 = ([.int .u64 ((gx l_233_1 (x_280.toNat)).1)] : Cells) ++ (([.string ((gx l_233_1 (x_280.toNat)).2.1)] : Cells) ++ ([.int .i64 ((gx l_233_1 (x_280.toNat)).2.2)] : Cells)) := em_300
      subst em_300
      refine HL.val Wanted.none (fun wq sq => (Runs.indexAddr Try.underlying37 cells51 (by decide) rfl e_296 rfl p_290 (by rw [show n_231_1 = l_233_1.length from hb_235_1.1]; exact q_291) (o := (x_280.toNat) * 3) (by first | rfl | omega))) ?_
      refine HL.val Wanted.none (fun wq sq => (Runs.fieldAddrB (off := 0) fld51_0 rfl rfl rfl)) ?_
      refine HL.val Wanted.none (fun wq sq => (Runs.load nagg29 rfl (Src.cellAt (j := 0) (Src.cut ((hs_293.at sq (mem_T (A := [_, _, _, _, _, _, _]) (fun _ h_ => hs_278.1 _ (hs_253.1 _ h_))))) e_296 hc_298) rfl))) ?_
      refine HL.val Wanted.none (fun wq sq => (Runs.neq rfl rfl rfl)) ?_
      refine HL.nil (fun w_301 st_302 => ?_)
      refine WL.nil ?_
      refine QW.then_n ?_
      obtain ⟨c_303, H⟩ := H
      have h_304 : ((gn l_266 (x_280.toNat)) != ((gx l_233_1 (x_280.toNat)).1)) = false := (bne_eq_false_iff_eq.mpr (Decidable.not_not.mp c_303))
      refine CW.cf rfl h_304 ?_
      refine CW.skip ?_
      refine QW.blk_n ?_
      refine QW.then_n ?_
      refine CW.region ?_
      refine WL.val Wanted.none (Runs.move rfl) ?_
      refine WL.val Wanted.none (Runs.add rfl rfl rfl) ?_
      refine WL.val Wanted.none (Runs.assign rfl) ?_
      refine WL.nil ?_
      exact QW.at _ (by repeat' constructor) ⟨T_277, b_279, IntKind.i64.wrap (x_280 + 1), rfl, H, hs_278, st_302⟩
     ·have h_285 : (decide (x_280 < (l_266.length : Int))) = false := (decide_eq_false c_284)
      refine CW.cf rfl h_285 ?_
      refine CW.exit ?_
      refine QW.then_x ?_
      refine QW.then_x ?_
      refine QW.blk_x ?_
      refine QW.blk_n ?_
      refine QW.then_n ?_
      refine CW.region ?_
      refine WL.val Wanted.none (Runs.move rfl) ?_
      refine WL.val Wanted.none (Runs.add rfl rfl rfl) ?_
      refine WL.val Wanted.none (Runs.assign rfl) ?_
      refine WL.nil ?_
      have st_282' := (St.pickT (L := [_, _, _, _, _, _, _]) st_282 [6, 0, 1] (by decide))
      exact QW.at _ (by repeat' constructor) ⟨T_277, A_255_1, c_257_1, n_256_1, x_259_1, l_258_1, a_229_0, A_230_1, n_231_1, c_232_1, l_233_1, a_254_0, b_279, IntKind.i64.wrap (x_64 + 1), rfl, H, ((((hs_48.trans hs_210).trans hs_227).trans hs_253).trans hs_278), hn_260_1, (hx_261_1.mono (fun _ h_ => hs_278.1 _ h_)), (hb_235_1.mono (fun _ h_ => hs_278.1 _ (hs_253.1 _ h_)) (fun _ h_ => hs_278.1 _ (hs_253.1 _ h_))), st_282'⟩
    ·have h_205 : ((bits .and .i64 ((gx l1 (x_64.toNat)).1) 7) == 1) = false := (beq_eq_false_iff_ne.mpr c_204)
     refine CW.cf rfl h_205 ?_
     refine CW.seq ?_
     refine CW.seq ?_
     refine CW.region ?_
     refine WL.val Wanted.none (Runs.eql rfl rfl rfl) ?_
     refine WL.val Wanted.none (Runs.assign rfl) ?_
     refine WL.nil ?_
     refine QW.then_n ?_
     rcases H with ⟨c_305, H⟩ | ⟨c_305, H⟩
     ·have h_306 : ((bits .and .i64 ((gx l1 (x_64.toNat)).1) 7) == 2) = true := (beq_iff_eq.mpr c_305)
      refine CW.ct rfl h_306 ?_
      refine CW.skip ?_
      refine QW.then_n ?_
      refine CW.ct rfl h_306 ?_
      refine CW.seq ?_
      refine CW.region ?_
      refine WL.val Wanted.none (Runs.move rfl) ?_
      refine WL.val Wanted.none (Runs.fieldAddr (off := 1) (p := 1) fld41_1 rfl rfl rfl) ?_
      refine WL.val Wanted.none (Runs.load nagg29 rfl (st_95.cell (k := 1) rfl (part_one (u := .int .u64 ((gx l1 (x_64.toNat)).2.1)) (pre := (([.int .i64 ((gx l1 (x_64.toNat)).1)] : Cells))) (post := (([.slice A_82 n_83 c_84] : Cells) ++ ([.bool ((gx l1 (x_64.toNat)).2.2.2)] : Cells))) (by first | rfl | simp only [List.append_assoc, List.append_nil, List.nil_append, List.cons_append]) (by first | rfl | simp only [List.length_append, List.length_cons, List.length_nil, iv_length])))) ?_
      have st_307 := (St.pickT (L := [_, _, _, _, _]) st_95 [3, 4, 0, 1, 2] (by decide))
      replace st_307 : St w w_94 (.cells b_10 (([.int .i64 x_62] : Cells) ++ ([.slice A_53 n_55 c_54] : Cells)) 57 :: .sl A_53 c_54 n_55 x_51 60 3 :: .sl A_98 c_99 n_100 (iv .u8 r_97) 5 1 :: .cells B_87 (([.int .i64 ((gx l1 (x_64.toNat)).1)] : Cells) ++ (([.int .u64 ((gx l1 (x_64.toNat)).2.1)] : Cells) ++ (([.slice A_82 n_83 c_84] : Cells) ++ ([.bool ((gx l1 (x_64.toNat)).2.2.2)] : Cells)))) 41 :: .cells B_22 (([.int .i64 x_56] : Cells) ++ ([.slice A_57 n_58 c_59] : Cells)) 39 :: (T_47 ++ R)) := st_307
      have st_308 : St w w_94 (.cells b_10 (([.int .i64 x_62] : Cells) ++ ([.slice A_53 n_55 c_54] : Cells)) 57 :: .sl A_53 c_54 n_55 x_51 60 3 :: (T_47 ++ (.sl A_98 c_99 n_100 (iv .u8 r_97) 5 1 :: .cells B_87 (([.int .i64 ((gx l1 (x_64.toNat)).1)] : Cells) ++ (([.int .u64 ((gx l1 (x_64.toNat)).2.1)] : Cells) ++ (([.slice A_82 n_83 c_84] : Cells) ++ ([.bool ((gx l1 (x_64.toNat)).2.2.2)] : Cells)))) 41 :: .cells B_22 (([.int .i64 x_56] : Cells) ++ ([.slice A_57 n_58 c_59] : Cells)) 39 :: R))) := St.hide (A := [_, _]) (B := [_, _, _]) (T := T_47) (R := R) st_307
      obtain ⟨a_312_0, l_316_1, l_324, a_328, hr_309, H⟩ := H
      refine WL.call Wanted.none ent12 rfl (buffers_Cache_Get.calls w w_94 T_47 (.sl A_98 c_99 n_100 (iv .u8 r_97) 5 1 :: .cells B_87 (([.int .i64 ((gx l1 (x_64.toNat)).1)] : Cells) ++ (([.int .u64 ((gx l1 (x_64.toNat)).2.1)] : Cells) ++ (([.slice A_82 n_83 c_84] : Cells) ++ ([.bool ((gx l1 (x_64.toNat)).2.2.2)] : Cells)))) 41 :: .cells B_22 (([.int .i64 x_56] : Cells) ++ ([.slice A_57 n_58 c_59] : Cells)) 39 :: R) x_62 l_49 ((gx l1 (x_64.toNat)).2.1) b_10 A_53 n_55 c_54 x_51  st_308 (hn_50) hx_52 a_312_0 l_316_1 l_324 a_328 hr_309) ?_
      rintro _ w_329 ⟨T_310, A_313_1, n_314_1, c_315_1, x_317_1, A_321, n_322, c_323, hs_311, hn_318_1, hx_319_1, hn_326, rfl, sc_331⟩
      have st_330 : St w w_329 (.cells b_10 (([.int .i64 a_312_0] : Cells) ++ ([.slice A_313_1 n_314_1 c_315_1] : Cells)) 57 :: .sl A_313_1 c_315_1 n_314_1 x_317_1 60 3 :: .sl A_321 c_323 n_322 (iv .u8 l_324) 5 1 :: .sl A_98 c_99 n_100 (iv .u8 r_97) 5 1 :: .cells B_87 (([.int .i64 ((gx l1 (x_64.toNat)).1)] : Cells) ++ (([.int .u64 ((gx l1 (x_64.toNat)).2.1)] : Cells) ++ (([.slice A_82 n_83 c_84] : Cells) ++ ([.bool ((gx l1 (x_64.toNat)).2.2.2)] : Cells)))) 41 :: .cells B_22 (([.int .i64 x_56] : Cells) ++ ([.slice A_57 n_58 c_59] : Cells)) 39 :: (T_310 ++ R)) := St.unhide (A := [_, _, _]) (B := [_, _, _]) (T := T_310) (R := R) sc_331
      refine ⟨_, rfl, ?_⟩
      refine WL.val Wanted.none (Runs.move rfl) ?_
      refine WL.val Wanted.none (Runs.extract rfl rfl) ?_
      refine WL.val Wanted.none (Runs.extract rfl rfl) ?_
      refine WL.val Wanted.none (Runs.assign rfl) ?_
      refine WL.val Wanted.none (Runs.assign rfl) ?_
      refine WL.nil ?_
      refine QW.then_n ?_
      refine CW.seq ?_
      refine CW.region ?_
      refine WL.val Wanted.none (Runs.load_mid row39 rfl st_330 (i := 5) rfl (part_mid (pre := (([] : Cells))) (mid := (([.int .i64 x_56] : Cells) ++ ([.slice A_57 n_58 c_59] : Cells))) (post := (([] : Cells))) (by first | rfl | simp only [List.append_assoc, List.append_nil, List.nil_append, List.cons_append]) (by first | rfl | simp only [List.length_append, List.length_cons, List.length_nil, iv_length]) (by first | rfl | simp only [List.length_append, List.length_cons, List.length_nil, iv_length])) (by first | rfl | simp only [List.length_append, List.length_cons, List.length_nil, iv_length])) ?_
      refine WL.val Wanted.none (Runs.fieldAddr (off := 1) (p := 1) fld41_1 rfl rfl rfl) ?_
      refine WL.val Wanted.none (Runs.load nagg29 rfl (st_330.cell (k := 4) rfl (part_one (u := .int .u64 ((gx l1 (x_64.toNat)).2.1)) (pre := (([.int .i64 ((gx l1 (x_64.toNat)).1)] : Cells))) (post := (([.slice A_82 n_83 c_84] : Cells) ++ ([.bool ((gx l1 (x_64.toNat)).2.2.2)] : Cells))) (by first | rfl | simp only [List.append_assoc, List.append_nil, List.nil_append, List.cons_append]) (by first | rfl | simp only [List.length_append, List.length_cons, List.length_nil, iv_length])))) ?_
      have st_332 : St w w_329 ((T_310 ++ (.cells b_10 (([.int .i64 a_312_0] : Cells) ++ ([.slice A_313_1 n_314_1 c_315_1] : Cells)) 57 :: .sl A_313_1 c_315_1 n_314_1 x_317_1 60 3 :: .sl A_321 c_323 n_322 (iv .u8 l_324) 5 1 :: .sl A_98 c_99 n_100 (iv .u8 r_97) 5 1 :: .cells B_87 (([.int .i64 ((gx l1 (x_64.toNat)).1)] : Cells) ++ (([.int .u64 ((gx l1 (x_64.toNat)).2.1)] : Cells) ++ (([.slice A_82 n_83 c_84] : Cells) ++ ([.bool ((gx l1 (x_64.toNat)).2.2.2)] : Cells)))) 41 :: .cells B_22 (([.int .i64 x_56] : Cells) ++ ([.slice A_57 n_58 c_59] : Cells)) 39 :: R))) := St.hide (A := []) (B := [_, _, _, _, _, _]) (T := T_310) (R := R) st_330
      obtain ⟨a_337_0, l_341_1, a_345, a_347, hr_333, H⟩ := H
      refine WL.call Wanted.none ent15 rfl (reliquaryref15_Get.calls w w_329 T_310 (.cells b_10 (([.int .i64 a_312_0] : Cells) ++ ([.slice A_313_1 n_314_1 c_315_1] : Cells)) 57 :: .sl A_313_1 c_315_1 n_314_1 x_317_1 60 3 :: .sl A_321 c_323 n_322 (iv .u8 l_324) 5 1 :: .sl A_98 c_99 n_100 (iv .u8 r_97) 5 1 :: .cells B_87 (([.int .i64 ((gx l1 (x_64.toNat)).1)] : Cells) ++ (([.int .u64 ((gx l1 (x_64.toNat)).2.1)] : Cells) ++ (([.slice A_82 n_83 c_84] : Cells) ++ ([.bool ((gx l1 (x_64.toNat)).2.2.2)] : Cells)))) 41 :: .cells B_22 (([.int .i64 x_56] : Cells) ++ ([.slice A_57 n_58 c_59] : Cells)) 39 :: R) x_56 l_60 ((gx l1 (x_64.toNat)).2.1) A_57 n_58 c_59  st_332 (hb_61.mono (fun _ h_ => hs_311.1 _ h_) (fun _ h_ => hs_311.1 _ h_)) a_337_0 l_341_1 a_345 a_347 hr_333) ?_
      rintro _ w_348 ⟨T_334, A_338_1, n_339_1, c_340_1, hs_335, hb_343_1, rfl, sc_350⟩
      have st_349 : St w w_348 (.cells b_10 (([.int .i64 a_312_0] : Cells) ++ ([.slice A_313_1 n_314_1 c_315_1] : Cells)) 57 :: .sl A_313_1 c_315_1 n_314_1 x_317_1 60 3 :: .sl A_321 c_323 n_322 (iv .u8 l_324) 5 1 :: .sl A_98 c_99 n_100 (iv .u8 r_97) 5 1 :: .cells B_87 (([.int .i64 ((gx l1 (x_64.toNat)).1)] : Cells) ++ (([.int .u64 ((gx l1 (x_64.toNat)).2.1)] : Cells) ++ (([.slice A_82 n_83 c_84] : Cells) ++ ([.bool ((gx l1 (x_64.toNat)).2.2.2)] : Cells)))) 41 :: .cells B_22 (([.int .i64 x_56] : Cells) ++ ([.slice A_57 n_58 c_59] : Cells)) 39 :: (T_334 ++ R)) := St.unhide (A := []) (B := [_, _, _, _, _, _]) (T := T_334) (R := R) sc_350
      refine ⟨_, rfl, ?_⟩
      refine WL.val Wanted.none (Runs.move rfl) ?_
      refine WL.val Wanted.none (Runs.extract rfl rfl) ?_
      refine WL.val Wanted.none (Runs.extract rfl rfl) ?_
      refine WL.val Wanted.none (Runs.extract rfl rfl) ?_
      refine WL.alloc st_349 zero39 ?_
      intro B_351 w_352 st_353
      replace st_353 : St w w_352 (.cells B_351 (([.int .i64 0] : Cells) ++ ([.slice none 0 0] : Cells)) 39 :: .cells b_10 (([.int .i64 a_312_0] : Cells) ++ ([.slice A_313_1 n_314_1 c_315_1] : Cells)) 57 :: .sl A_313_1 c_315_1 n_314_1 x_317_1 60 3 :: .sl A_321 c_323 n_322 (iv .u8 l_324) 5 1 :: .sl A_98 c_99 n_100 (iv .u8 r_97) 5 1 :: .cells B_87 (([.int .i64 ((gx l1 (x_64.toNat)).1)] : Cells) ++ (([.int .u64 ((gx l1 (x_64.toNat)).2.1)] : Cells) ++ (([.slice A_82 n_83 c_84] : Cells) ++ ([.bool ((gx l1 (x_64.toNat)).2.2.2)] : Cells)))) 41 :: .cells B_22 (([.int .i64 x_56] : Cells) ++ ([.slice A_57 n_58 c_59] : Cells)) 39 :: (T_334 ++ R)) := st_353
      refine WL.store_mid (i := 0) (pre := (([] : Cells))) (mid := (([.int .i64 0] : Cells) ++ ([.slice none 0 0] : Cells))) (post := (([] : Cells))) (ms := (([.int .i64 a_337_0] : Cells) ++ ([.slice A_338_1 n_339_1 c_340_1] : Cells))) st_353 rfl row39 (by first | rfl | simp only [List.append_assoc, List.append_nil, List.nil_append, List.cons_append]) (by first | rfl | simp only [List.length_append, List.length_cons, List.length_nil, iv_length]) rfl rfl (by first | rfl | simp only [List.length_append, List.length_cons, List.length_nil, iv_length]) (by first | rfl | simp only [List.length_append, List.length_cons, List.length_nil, iv_length]) (by intro u hu; simp only [List.mem_append, List.mem_singleton] at hu; rcases hu with hu | hu <;> first | exact one_iv _ _ u hu | (subst hu; rfl)) ?_
      intro w_355 st_356
      replace st_356 : St w w_355 (.cells B_351 (([.int .i64 a_337_0] : Cells) ++ ([.slice A_338_1 n_339_1 c_340_1] : Cells)) 39 :: .cells b_10 (([.int .i64 a_312_0] : Cells) ++ ([.slice A_313_1 n_314_1 c_315_1] : Cells)) 57 :: .sl A_313_1 c_315_1 n_314_1 x_317_1 60 3 :: .sl A_321 c_323 n_322 (iv .u8 l_324) 5 1 :: .sl A_98 c_99 n_100 (iv .u8 r_97) 5 1 :: .cells B_87 (([.int .i64 ((gx l1 (x_64.toNat)).1)] : Cells) ++ (([.int .u64 ((gx l1 (x_64.toNat)).2.1)] : Cells) ++ (([.slice A_82 n_83 c_84] : Cells) ++ ([.bool ((gx l1 (x_64.toNat)).2.2.2)] : Cells)))) 41 :: .cells B_22 (([.int .i64 x_56] : Cells) ++ ([.slice A_57 n_58 c_59] : Cells)) 39 :: (T_334 ++ R)) := by have e_ : (([.int .i64 a_337_0] : Cells) ++ ([.slice A_338_1 n_339_1 c_340_1] : Cells)) = (([] : Cells)) ++ ((([.int .i64 a_337_0] : Cells) ++ ([.slice A_338_1 n_339_1 c_340_1] : Cells)) ++ (([] : Cells))) := (by first | rfl | simp only [List.append_assoc, List.append_nil, List.nil_append, List.cons_append]); have h_ : St w w_355 (.cells B_351 ((([] : Cells)) ++ ((([.int .i64 a_337_0] : Cells) ++ ([.slice A_338_1 n_339_1 c_340_1] : Cells)) ++ (([] : Cells)))) 39 :: .cells b_10 (([.int .i64 a_312_0] : Cells) ++ ([.slice A_313_1 n_314_1 c_315_1] : Cells)) 57 :: .sl A_313_1 c_315_1 n_314_1 x_317_1 60 3 :: .sl A_321 c_323 n_322 (iv .u8 l_324) 5 1 :: .sl A_98 c_99 n_100 (iv .u8 r_97) 5 1 :: .cells B_87 (([.int .i64 ((gx l1 (x_64.toNat)).1)] : Cells) ++ (([.int .u64 ((gx l1 (x_64.toNat)).2.1)] : Cells) ++ (([.slice A_82 n_83 c_84] : Cells) ++ ([.bool ((gx l1 (x_64.toNat)).2.2.2)] : Cells)))) 41 :: .cells B_22 (([.int .i64 x_56] : Cells) ++ ([.slice A_57 n_58 c_59] : Cells)) 39 :: (T_334 ++ R)) := st_356; rw [← e_] at h_; exact h_
      refine WL.val Wanted.none (Runs.assign rfl) ?_
      refine WL.val Wanted.none (Runs.assign rfl) ?_
      refine WL.nil ?_
      refine QW.then_n ?_
      refine CW.seq ?_
      refine CW.region ?_
      refine WL.val Wanted.none (Runs.load_mid row39 rfl st_356 (i := 0) rfl (part_mid (pre := (([] : Cells))) (mid := (([.int .i64 a_337_0] : Cells) ++ ([.slice A_338_1 n_339_1 c_340_1] : Cells))) (post := (([] : Cells))) (by first | rfl | simp only [List.append_assoc, List.append_nil, List.nil_append, List.cons_append]) (by first | rfl | simp only [List.length_append, List.length_cons, List.length_nil, iv_length]) (by first | rfl | simp only [List.length_append, List.length_cons, List.length_nil, iv_length])) (by first | rfl | simp only [List.length_append, List.length_cons, List.length_nil, iv_length])) ?_
      refine WL.store_mid (i := 6) (pre := (([] : Cells))) (mid := (([.int .i64 x_56] : Cells) ++ ([.slice A_57 n_58 c_59] : Cells))) (post := (([] : Cells))) (ms := (([.int .i64 a_337_0] : Cells) ++ ([.slice A_338_1 n_339_1 c_340_1] : Cells))) st_356 rfl row39 (by first | rfl | simp only [List.append_assoc, List.append_nil, List.nil_append, List.cons_append]) (by first | rfl | simp only [List.length_append, List.length_cons, List.length_nil, iv_length]) rfl rfl (by first | rfl | simp only [List.length_append, List.length_cons, List.length_nil, iv_length]) (by first | rfl | simp only [List.length_append, List.length_cons, List.length_nil, iv_length]) (by intro u hu; simp only [List.mem_append, List.mem_singleton] at hu; rcases hu with hu | hu <;> first | exact one_iv _ _ u hu | (subst hu; rfl)) ?_
      intro w_357 st_358
      replace st_358 : St w w_357 (.cells B_351 (([.int .i64 a_337_0] : Cells) ++ ([.slice A_338_1 n_339_1 c_340_1] : Cells)) 39 :: .cells b_10 (([.int .i64 a_312_0] : Cells) ++ ([.slice A_313_1 n_314_1 c_315_1] : Cells)) 57 :: .sl A_313_1 c_315_1 n_314_1 x_317_1 60 3 :: .sl A_321 c_323 n_322 (iv .u8 l_324) 5 1 :: .sl A_98 c_99 n_100 (iv .u8 r_97) 5 1 :: .cells B_87 (([.int .i64 ((gx l1 (x_64.toNat)).1)] : Cells) ++ (([.int .u64 ((gx l1 (x_64.toNat)).2.1)] : Cells) ++ (([.slice A_82 n_83 c_84] : Cells) ++ ([.bool ((gx l1 (x_64.toNat)).2.2.2)] : Cells)))) 41 :: .cells B_22 (([.int .i64 a_337_0] : Cells) ++ ([.slice A_338_1 n_339_1 c_340_1] : Cells)) 39 :: (T_334 ++ R)) := by have e_ : (([.int .i64 a_337_0] : Cells) ++ ([.slice A_338_1 n_339_1 c_340_1] : Cells)) = (([] : Cells)) ++ ((([.int .i64 a_337_0] : Cells) ++ ([.slice A_338_1 n_339_1 c_340_1] : Cells)) ++ (([] : Cells))) := (by first | rfl | simp only [List.append_assoc, List.append_nil, List.nil_append, List.cons_append]); have h_ : St w w_357 (.cells B_351 (([.int .i64 a_337_0] : Cells) ++ ([.slice A_338_1 n_339_1 c_340_1] : Cells)) 39 :: .cells b_10 (([.int .i64 a_312_0] : Cells) ++ ([.slice A_313_1 n_314_1 c_315_1] : Cells)) 57 :: .sl A_313_1 c_315_1 n_314_1 x_317_1 60 3 :: .sl A_321 c_323 n_322 (iv .u8 l_324) 5 1 :: .sl A_98 c_99 n_100 (iv .u8 r_97) 5 1 :: .cells B_87 (([.int .i64 ((gx l1 (x_64.toNat)).1)] : Cells) ++ (([.int .u64 ((gx l1 (x_64.toNat)).2.1)] : Cells) ++ (([.slice A_82 n_83 c_84] : Cells) ++ ([.bool ((gx l1 (x_64.toNat)).2.2.2)] : Cells)))) 41 :: .cells B_22 ((([] : Cells)) ++ ((([.int .i64 a_337_0] : Cells) ++ ([.slice A_338_1 n_339_1 c_340_1] : Cells)) ++ (([] : Cells)))) 39 :: (T_334 ++ R)) := st_358; rw [← e_] at h_; exact h_
      refine WL.nil ?_
      refine QW.then_n ?_
      refine CW.region ?_
      refine WL.val Wanted.none (Runs.move rfl) ?_
      refine WL.val Wanted.none (Runs.bytes_str Try.underlying22 Try.underlying5 Try.underlying9 rfl (st_358.src_sl (k := 3) rfl) hn_326) ?_
      refine WL.val Wanted.none (Runs.move rfl) ?_
      refine WL.val Wanted.none (Runs.eqs rfl rfl rfl) ?_
      refine WL.val Wanted.none (Runs.move rfl) ?_
      obtain ⟨c_359, H⟩ := H
      have h_360 : ((strOfNums l_324).toList == a_345.toList) = true := (beq_iff_eq.mpr c_359)
      refine WL.on ?_ ?_; exact Wanted.guard (dj := 109) (by rfl) (evb (by rfl) h_360) (by rfl)
      refine WL.val Wanted.none (Runs.move rfl) ?_
      refine WL.on ?_ ?_; exact Wanted.guard (dj := 109) (by rfl) (evb (by rfl) h_360) (by rfl)
      refine WL.val Wanted.none (Runs.move rfl) ?_
      refine WL.on ?_ ?_; exact Wanted.guard (dj := 109) (by rfl) (evb (by rfl) h_360) (by rfl)
      refine WL.val Wanted.none (Runs.eqb Try.underlying4 rfl rfl rfl) ?_
      refine WL.val Wanted.none (Runs.pick_t (evb rfl h_360) rfl) ?_
      refine WL.val Wanted.none (Runs.assign rfl) ?_
      refine WL.nil ?_
      refine QW.blk_n ?_
      refine QW.then_n ?_
      refine CW.seq ?_
      refine CW.region ?_
      refine WL.val Wanted.none (Runs.move rfl) ?_
      have st_361 := (St.pickT (L := [_, _, _, _, _, _, _]) st_358 [1, 2, 0, 3, 4, 5, 6] (by decide))
      replace st_361 : St w w_357 (.cells b_10 (([.int .i64 a_312_0] : Cells) ++ ([.slice A_313_1 n_314_1 c_315_1] : Cells)) 57 :: .sl A_313_1 c_315_1 n_314_1 x_317_1 60 3 :: .cells B_351 (([.int .i64 a_337_0] : Cells) ++ ([.slice A_338_1 n_339_1 c_340_1] : Cells)) 39 :: .sl A_321 c_323 n_322 (iv .u8 l_324) 5 1 :: .sl A_98 c_99 n_100 (iv .u8 r_97) 5 1 :: .cells B_87 (([.int .i64 ((gx l1 (x_64.toNat)).1)] : Cells) ++ (([.int .u64 ((gx l1 (x_64.toNat)).2.1)] : Cells) ++ (([.slice A_82 n_83 c_84] : Cells) ++ ([.bool ((gx l1 (x_64.toNat)).2.2.2)] : Cells)))) 41 :: .cells B_22 (([.int .i64 a_337_0] : Cells) ++ ([.slice A_338_1 n_339_1 c_340_1] : Cells)) 39 :: (T_334 ++ R)) := st_361
      have st_362 : St w w_357 (.cells b_10 (([.int .i64 a_312_0] : Cells) ++ ([.slice A_313_1 n_314_1 c_315_1] : Cells)) 57 :: .sl A_313_1 c_315_1 n_314_1 x_317_1 60 3 :: (T_334 ++ (.cells B_351 (([.int .i64 a_337_0] : Cells) ++ ([.slice A_338_1 n_339_1 c_340_1] : Cells)) 39 :: .sl A_321 c_323 n_322 (iv .u8 l_324) 5 1 :: .sl A_98 c_99 n_100 (iv .u8 r_97) 5 1 :: .cells B_87 (([.int .i64 ((gx l1 (x_64.toNat)).1)] : Cells) ++ (([.int .u64 ((gx l1 (x_64.toNat)).2.1)] : Cells) ++ (([.slice A_82 n_83 c_84] : Cells) ++ ([.bool ((gx l1 (x_64.toNat)).2.2.2)] : Cells)))) 41 :: .cells B_22 (([.int .i64 a_337_0] : Cells) ++ ([.slice A_338_1 n_339_1 c_340_1] : Cells)) 39 :: R))) := St.hide (A := [_, _]) (B := [_, _, _, _, _]) (T := T_334) (R := R) st_361
      obtain ⟨a_366_0, l_370_1, l_378, hr_363, H⟩ := H
      refine WL.call Wanted.none ent13 rfl (buffers_Cache_Blocks.calls w w_357 T_334 (.cells B_351 (([.int .i64 a_337_0] : Cells) ++ ([.slice A_338_1 n_339_1 c_340_1] : Cells)) 39 :: .sl A_321 c_323 n_322 (iv .u8 l_324) 5 1 :: .sl A_98 c_99 n_100 (iv .u8 r_97) 5 1 :: .cells B_87 (([.int .i64 ((gx l1 (x_64.toNat)).1)] : Cells) ++ (([.int .u64 ((gx l1 (x_64.toNat)).2.1)] : Cells) ++ (([.slice A_82 n_83 c_84] : Cells) ++ ([.bool ((gx l1 (x_64.toNat)).2.2.2)] : Cells)))) 41 :: .cells B_22 (([.int .i64 a_337_0] : Cells) ++ ([.slice A_338_1 n_339_1 c_340_1] : Cells)) 39 :: R) a_312_0 l_316_1 b_10 A_313_1 n_314_1 c_315_1 x_317_1  st_362 (hn_318_1) (hx_319_1.mono (fun _ h_ => hs_335.1 _ h_)) a_366_0 l_370_1 l_378 hr_363) ?_
      rintro _ w_381 ⟨T_364, A_367_1, n_368_1, c_369_1, x_371_1, A_375, n_376, c_377, hs_365, hn_372_1, hx_373_1, hn_380, rfl, sc_383⟩
      have st_382 : St w w_381 (.cells b_10 (([.int .i64 a_366_0] : Cells) ++ ([.slice A_367_1 n_368_1 c_369_1] : Cells)) 57 :: .sl A_367_1 c_369_1 n_368_1 x_371_1 60 3 :: .sl A_375 c_377 n_376 (iv .u64 l_378) 29 1 :: .cells B_351 (([.int .i64 a_337_0] : Cells) ++ ([.slice A_338_1 n_339_1 c_340_1] : Cells)) 39 :: .sl A_321 c_323 n_322 (iv .u8 l_324) 5 1 :: .sl A_98 c_99 n_100 (iv .u8 r_97) 5 1 :: .cells B_87 (([.int .i64 ((gx l1 (x_64.toNat)).1)] : Cells) ++ (([.int .u64 ((gx l1 (x_64.toNat)).2.1)] : Cells) ++ (([.slice A_82 n_83 c_84] : Cells) ++ ([.bool ((gx l1 (x_64.toNat)).2.2.2)] : Cells)))) 41 :: .cells B_22 (([.int .i64 a_337_0] : Cells) ++ ([.slice A_338_1 n_339_1 c_340_1] : Cells)) 39 :: (T_364 ++ R)) := St.unhide (A := [_, _, _]) (B := [_, _, _, _, _]) (T := T_364) (R := R) sc_383
      refine ⟨_, rfl, ?_⟩
      refine WL.val Wanted.none (Runs.assign rfl) ?_
      refine WL.nil ?_
      refine QW.then_n ?_
      refine CW.seq ?_
      refine CW.seq ?_
      refine CW.region ?_
      refine WL.val Wanted.none (Runs.move rfl) ?_
      refine WL.val Wanted.none (Runs.not rfl rfl) ?_
      refine WL.val Wanted.none (Runs.move rfl) ?_
      obtain ⟨c_384, H⟩ := H
      have h_385 : (!(a_328 == a_347)) = false := (not_f (beq_iff_eq.mpr (Decidable.not_not.mp c_384)))
      refine WL.on ?_ ?_; exact Wanted.guard (dj := 169) (by rfl) (evb (by rfl) h_385) (by rfl)
      refine WL.val Wanted.none (Runs.move rfl) ?_
      refine WL.on ?_ ?_; exact Wanted.guard (dj := 169) (by rfl) (evb (by rfl) h_385) (by rfl)
      refine WL.val Wanted.none (Runs.len_sl Try.underlying33 rfl (by rw [hn_380])) ?_
      refine WL.on ?_ ?_; exact Wanted.guard (dj := 169) (by rfl) (evb (by rfl) h_385) (by rfl)
      refine WL.val Wanted.none (Runs.fieldAddr (off := 1) (p := 1) fld39_1 rfl rfl rfl) ?_
      refine WL.on ?_ ?_; exact Wanted.guard (dj := 169) (by rfl) (evb (by rfl) h_385) (by rfl)
      refine WL.val Wanted.none (Runs.load nagg37 rfl (st_382.cell (k := 7) rfl (part_one (u := .slice A_338_1 n_339_1 c_340_1) (pre := (([.int .i64 a_337_0] : Cells))) (post := (([] : Cells))) (by first | rfl | simp only [List.append_assoc, List.append_nil, List.nil_append, List.cons_append]) (by first | rfl | simp only [List.length_append, List.length_cons, List.length_nil, iv_length])))) ?_
      refine WL.on ?_ ?_; exact Wanted.guard (dj := 169) (by rfl) (evb (by rfl) h_385) (by rfl)
      refine WL.val Wanted.none (Runs.len_sl Try.underlying37 rfl (by rw [hb_343_1.1])) ?_
      refine WL.on ?_ ?_; exact Wanted.guard (dj := 169) (by rfl) (evb (by rfl) h_385) (by rfl)
      refine WL.val Wanted.none (Runs.neq rfl rfl rfl) ?_
      refine WL.val Wanted.none (Runs.pick_f (evb rfl h_385) rfl) ?_
      refine WL.nil ?_
      refine QW.then_n ?_
      obtain ⟨c_386, H⟩ := H
      have h_387 : ((l_378.length : Int) != (l_341_1.length : Int)) = false := (bne_eq_false_iff_eq.mpr (Decidable.not_not.mp c_386))
      refine CW.cf rfl h_387 ?_
      refine CW.skip ?_
      refine QW.then_n ?_
      refine CW.seq ?_
      refine CW.region ?_
      refine WL.val Wanted.none (Runs.assign rfl) ?_
      refine WL.nil ?_
      refine QW.then_n ?_
      refine CW.block ?_
      obtain ⟨k_388, H⟩ := H
      refine CW.sub [(1, .slice A1 n1 c1), (4, .bool b_63), (6, .pointer (some ⟨b_10, 0, none⟩)), (7, .pointer (some ⟨B_22, 0, none⟩)), (8, .int .i64 x_64), (38, .int .i64 x_64), (39, .slice A1 n1 c1), (40, .int .i64 (l1.length : Int)), (41, .bool (decide (x_64 < (l1.length : Int)))), (42, .bool (decide (x_64 < (l1.length : Int)))), (43, .int .i64 x_64), (44, .bool (decide (x_64 < 60))), (45, .bool (decide (x_64 < 60))), (48, .slice A1 n1 c1), (49, .int .i64 x_64), (50, .pointer (some (a_77.add ((x_64.toNat) * 4)))), (51, .agg (([.int .i64 ((gx l1 (x_64.toNat)).1)] : Cells) ++ (([.int .u64 ((gx l1 (x_64.toNat)).2.1)] : Cells) ++ (([.slice A_82 n_83 c_84] : Cells) ++ ([.bool ((gx l1 (x_64.toNat)).2.2.2)] : Cells)))).toArray), (9, .pointer (some ⟨B_87, 0, none⟩)), (52, .pointer (some ⟨B_87, 2, none⟩)), (53, .slice A_82 n_83 c_84), (54, .pointer (some ⟨B_87, 3, none⟩)), (55, .bool ((gx l1 (x_64.toNat)).2.2.2)), (56, .slice A_98 n_100 c_99), (10, .slice A_98 n_100 c_99), (11, .bool (a_328 == a_347)), (57, .pointer (some ⟨B_87, 0, none⟩)), (58, .int .i64 ((gx l1 (x_64.toNat)).1)), (59, .int .i64 (bits .and .i64 ((gx l1 (x_64.toNat)).1) 7)), (66, .bool ((bits .and .i64 ((gx l1 (x_64.toNat)).1) 7) == 0)), (65, .bool ((bits .and .i64 ((gx l1 (x_64.toNat)).1) 7) == 1)), (67, .bool ((bits .and .i64 ((gx l1 (x_64.toNat)).1) 7) == 1)), (87, .bool ((bits .and .i64 ((gx l1 (x_64.toNat)).1) 7) == 2)), (86, .bool ((bits .and .i64 ((gx l1 (x_64.toNat)).1) 7) == 2)), (90, .pointer (some ⟨b_10, 0, none⟩)), (91, .pointer (some ⟨B_87, 1, none⟩)), (92, .int .u64 ((gx l1 (x_64.toNat)).2.1)), (93, .tuple #[.slice A_321 n_322 c_323, .bool a_328]), (89, .tuple #[.slice A_321 n_322 c_323, .bool a_328]), (94, .slice A_321 n_322 c_323), (95, .bool a_328), (15, .slice A_321 n_322 c_323), (16, .bool a_328), (97, .agg (([.int .i64 x_56] : Cells) ++ ([.slice A_57 n_58 c_59] : Cells)).toArray), (98, .pointer (some ⟨B_87, 1, none⟩)), (99, .int .u64 ((gx l1 (x_64.toNat)).2.1)), (100, .tuple #[.agg (([.int .i64 a_337_0] : Cells) ++ ([.slice A_338_1 n_339_1 c_340_1] : Cells)).toArray, .string a_345, .bool a_347]), (96, .tuple #[.agg (([.int .i64 a_337_0] : Cells) ++ ([.slice A_338_1 n_339_1 c_340_1] : Cells)).toArray, .string a_345, .bool a_347]), (101, .agg (([.int .i64 a_337_0] : Cells) ++ ([.slice A_338_1 n_339_1 c_340_1] : Cells)).toArray), (102, .string a_345), (103, .bool a_347), (17, .pointer (some ⟨B_351, 0, none⟩)), (18, .string a_345), (19, .bool a_347), (104, .agg (([.int .i64 a_337_0] : Cells) ++ ([.slice A_338_1 n_339_1 c_340_1] : Cells)).toArray), (105, .slice A_321 n_322 c_323), (106, .string (strOfNums l_324)), (107, .string a_345), (108, .bool ((strOfNums l_324).toList == a_345.toList)), (109, .bool ((strOfNums l_324).toList == a_345.toList)), (110, .bool a_328), (111, .bool a_347), (112, .bool (a_328 == a_347)), (113, .bool (a_328 == a_347)), (165, .pointer (some ⟨b_10, 0, none⟩)), (166, .slice A_375 n_376 c_377), (29, .slice A_375 n_376 c_377), (167, .bool (a_328 == a_347)), (168, .bool (!(a_328 == a_347))), (169, .bool (!(a_328 == a_347))), (170, .slice A_375 n_376 c_377), (171, .int .i64 (l_378.length : Int)), (172, .pointer (some ⟨B_22, 1, none⟩)), (173, .slice A_338_1 n_339_1 c_340_1), (174, .int .i64 (l_341_1.length : Int)), (175, .bool ((l_378.length : Int) != (l_341_1.length : Int))), (176, .bool ((l_378.length : Int) != (l_341_1.length : Int))), (30, .int .i64 0)] (by repeat' constructor) ?_
      refine CW.loop (fun kL4 l_ w_ => ∃ (T_389 : Pool) (b_391 : Bool) (x_392 : Int), l_ = [(1, .slice A1 n1 c1), (4, .bool b_391), (6, .pointer (some ⟨b_10, 0, none⟩)), (7, .pointer (some ⟨B_22, 0, none⟩)), (8, .int .i64 x_64), (38, .int .i64 x_64), (39, .slice A1 n1 c1), (40, .int .i64 (l1.length : Int)), (41, .bool (decide (x_64 < (l1.length : Int)))), (42, .bool (decide (x_64 < (l1.length : Int)))), (43, .int .i64 x_64), (44, .bool (decide (x_64 < 60))), (45, .bool (decide (x_64 < 60))), (48, .slice A1 n1 c1), (49, .int .i64 x_64), (50, .pointer (some (a_77.add ((x_64.toNat) * 4)))), (51, .agg (([.int .i64 ((gx l1 (x_64.toNat)).1)] : Cells) ++ (([.int .u64 ((gx l1 (x_64.toNat)).2.1)] : Cells) ++ (([.slice A_82 n_83 c_84] : Cells) ++ ([.bool ((gx l1 (x_64.toNat)).2.2.2)] : Cells)))).toArray), (9, .pointer (some ⟨B_87, 0, none⟩)), (52, .pointer (some ⟨B_87, 2, none⟩)), (53, .slice A_82 n_83 c_84), (54, .pointer (some ⟨B_87, 3, none⟩)), (55, .bool ((gx l1 (x_64.toNat)).2.2.2)), (56, .slice A_98 n_100 c_99), (10, .slice A_98 n_100 c_99), (11, .bool (a_328 == a_347)), (57, .pointer (some ⟨B_87, 0, none⟩)), (58, .int .i64 ((gx l1 (x_64.toNat)).1)), (59, .int .i64 (bits .and .i64 ((gx l1 (x_64.toNat)).1) 7)), (66, .bool ((bits .and .i64 ((gx l1 (x_64.toNat)).1) 7) == 0)), (65, .bool ((bits .and .i64 ((gx l1 (x_64.toNat)).1) 7) == 1)), (67, .bool ((bits .and .i64 ((gx l1 (x_64.toNat)).1) 7) == 1)), (87, .bool ((bits .and .i64 ((gx l1 (x_64.toNat)).1) 7) == 2)), (86, .bool ((bits .and .i64 ((gx l1 (x_64.toNat)).1) 7) == 2)), (90, .pointer (some ⟨b_10, 0, none⟩)), (91, .pointer (some ⟨B_87, 1, none⟩)), (92, .int .u64 ((gx l1 (x_64.toNat)).2.1)), (93, .tuple #[.slice A_321 n_322 c_323, .bool a_328]), (89, .tuple #[.slice A_321 n_322 c_323, .bool a_328]), (94, .slice A_321 n_322 c_323), (95, .bool a_328), (15, .slice A_321 n_322 c_323), (16, .bool a_328), (97, .agg (([.int .i64 x_56] : Cells) ++ ([.slice A_57 n_58 c_59] : Cells)).toArray), (98, .pointer (some ⟨B_87, 1, none⟩)), (99, .int .u64 ((gx l1 (x_64.toNat)).2.1)), (100, .tuple #[.agg (([.int .i64 a_337_0] : Cells) ++ ([.slice A_338_1 n_339_1 c_340_1] : Cells)).toArray, .string a_345, .bool a_347]), (96, .tuple #[.agg (([.int .i64 a_337_0] : Cells) ++ ([.slice A_338_1 n_339_1 c_340_1] : Cells)).toArray, .string a_345, .bool a_347]), (101, .agg (([.int .i64 a_337_0] : Cells) ++ ([.slice A_338_1 n_339_1 c_340_1] : Cells)).toArray), (102, .string a_345), (103, .bool a_347), (17, .pointer (some ⟨B_351, 0, none⟩)), (18, .string a_345), (19, .bool a_347), (104, .agg (([.int .i64 a_337_0] : Cells) ++ ([.slice A_338_1 n_339_1 c_340_1] : Cells)).toArray), (105, .slice A_321 n_322 c_323), (106, .string (strOfNums l_324)), (107, .string a_345), (108, .bool ((strOfNums l_324).toList == a_345.toList)), (109, .bool ((strOfNums l_324).toList == a_345.toList)), (110, .bool a_328), (111, .bool a_347), (112, .bool (a_328 == a_347)), (113, .bool (a_328 == a_347)), (165, .pointer (some ⟨b_10, 0, none⟩)), (166, .slice A_375 n_376 c_377), (29, .slice A_375 n_376 c_377), (167, .bool (a_328 == a_347)), (168, .bool (!(a_328 == a_347))), (169, .bool (!(a_328 == a_347))), (170, .slice A_375 n_376 c_377), (171, .int .i64 (l_378.length : Int)), (172, .pointer (some ⟨B_22, 1, none⟩)), (173, .slice A_338_1 n_339_1 c_340_1), (174, .int .i64 (l_341_1.length : Int)), (175, .bool ((l_378.length : Int) != (l_341_1.length : Int))), (176, .bool ((l_378.length : Int) != (l_341_1.length : Int))), (30, .int .i64 x_392)] ∧ reliquarylaw15_BuffersPlays.L4 x_64 a_337_0 l_341_1 a_366_0 l_370_1 l_378 (reliquarylaw15_BuffersPlays.L1 l1 kL1) kL4 b_391 x_392 ∧ (Pl T_364 T_389) ∧ St w w_ (.cells b_10 (([.int .i64 a_366_0] : Cells) ++ ([.slice A_367_1 n_368_1 c_369_1] : Cells)) 57 :: .sl A_367_1 c_369_1 n_368_1 x_371_1 60 3 :: .sl A_375 c_377 n_376 (iv .u64 l_378) 29 1 :: .cells B_351 (([.int .i64 a_337_0] : Cells) ++ ([.slice A_338_1 n_339_1 c_340_1] : Cells)) 39 :: .sl A_321 c_323 n_322 (iv .u8 l_324) 5 1 :: .sl A_98 c_99 n_100 (iv .u8 r_97) 5 1 :: .cells B_87 (([.int .i64 ((gx l1 (x_64.toNat)).1)] : Cells) ++ (([.int .u64 ((gx l1 (x_64.toNat)).2.1)] : Cells) ++ (([.slice A_82 n_83 c_84] : Cells) ++ ([.bool ((gx l1 (x_64.toNat)).2.2.2)] : Cells)))) 41 :: .cells B_22 (([.int .i64 a_337_0] : Cells) ++ ([.slice A_338_1 n_339_1 c_340_1] : Cells)) 39 :: (T_389 ++ R))) (k := k_388) ⟨T_364, b_63, 0, rfl, H, Pl.refl, st_382⟩ (fun _ _ h => by obtain ⟨_, _, _, _, h, _⟩ := h; exact h.elim) ?_
      rintro kL4 l_395 w_393 ⟨T_389, b_391, x_392, rfl, H, hs_390, st_394⟩
      refine CW.seq ?_
      refine CW.seq ?_
      refine CW.region ?_
      refine WL.val Wanted.none (Runs.move rfl) ?_
      refine WL.val Wanted.none (Runs.move rfl) ?_
      refine WL.val Wanted.none (Runs.len_sl Try.underlying33 rfl (by rw [hn_380])) ?_
      refine WL.val Wanted.none (Runs.lss rfl rfl rfl) ?_
      refine WL.nil ?_
      refine QW.then_n ?_
      rcases H with ⟨c_396, H⟩ | ⟨c_396, H⟩
      ·have h_397 : (decide (x_392 < (l_378.length : Int))) = true := (decide_eq_true c_396)
       refine CW.ct rfl h_397 ?_
       refine CW.skip ?_
       refine QW.then_n ?_
       refine CW.seq ?_
       refine CW.block ?_
       refine CW.seq ?_
       refine CW.region_qa wide (by kernel_rfl) st_394 ?_
       refine HL.val Wanted.none (fun wq sq => (Runs.move rfl)) ?_
       refine HL.val Wanted.none (fun wq sq => (Runs.move rfl)) ?_
       obtain ⟨⟨p_398, q_399⟩, H⟩ := H
       obtain ⟨a_400, e_401⟩ := (st_394.src_sl (k := 2) rfl).addr_iv (x_392.toNat) (by omega)
       refine HL.val Wanted.none (fun wq sq => (Runs.indexAddr Try.underlying33 cells29 (by decide) rfl e_401 rfl p_398 (by rw [hn_380]; exact q_399) (o := (x_392).toNat) (by first | rfl | omega))) ?_
       refine HL.val Wanted.none (fun wq sq => (Runs.load nagg29 rfl ((sq.src_sl (k := 2) rfl).cell_iv e_401 (by omega)))) ?_
       refine HL.val Wanted.none (fun wq sq => (Runs.fieldAddr (off := 1) (p := 1) fld39_1 rfl rfl rfl)) ?_
       refine HL.val Wanted.none (fun wq sq => (Runs.load nagg37 rfl (sq.cell (k := 7) rfl (part_one (u := .slice A_338_1 n_339_1 c_340_1) (pre := (([.int .i64 a_337_0] : Cells))) (post := (([] : Cells))) (by first | rfl | simp only [List.append_assoc, List.append_nil, List.nil_append, List.cons_append]) (by first | rfl | simp only [List.length_append, List.length_cons, List.length_nil, iv_length]))))) ?_
       refine HL.val Wanted.none (fun wq sq => (Runs.move rfl)) ?_
       obtain ⟨⟨p_402, q_403⟩, H⟩ := H
       obtain ⟨x_404, hs_405, hr_406⟩ := hb_343_1.2.2
       obtain ⟨a_407, e_408, ms_409, hc_410, hm_411⟩ := el_get (i := (x_392).toNat) ((hs_405.at st_394 (mem_T (A := [_, _, _, _, _, _, _, _]) (fun _ h_ => hs_390.1 _ (hs_365.1 _ h_))))) (hr_406.mono (fun _ h_ => hs_390.1 _ (hs_365.1 _ h_))) (fz51 w) (by decide) (by omega)
       obtain em_412 := inv51 hm_411
       replace em_412 : ms_409 = ([.int .u64 ((gx l_341_1 (x_392.toNat)).1)] : Cells) ++ (([.string ((gx l_341_1 (x_392.toNat)).2.1)] : Cells) ++ ([.int .i64 ((gx l_341_1 (x_392.toNat)).2.2)] : Cells)) := em_412
       subst em_412
       refine HL.val Wanted.none (fun wq sq => (Runs.indexAddr Try.underlying37 cells51 (by decide) rfl e_408 rfl p_402 (by rw [show n_339_1 = l_341_1.length from hb_343_1.1]; exact q_403) (o := (x_392.toNat) * 3) (by first | rfl | omega))) ?_
       refine HL.val Wanted.none (fun wq sq => (Runs.fieldAddrB (off := 0) fld51_0 rfl rfl rfl)) ?_
       refine HL.val Wanted.none (fun wq sq => (Runs.load nagg29 rfl (Src.cellAt (j := 0) (Src.cut ((hs_405.at sq (mem_T (A := [_, _, _, _, _, _, _, _]) (fun _ h_ => hs_390.1 _ (hs_365.1 _ h_))))) e_408 hc_410) rfl))) ?_
       refine HL.val Wanted.none (fun wq sq => (Runs.neq rfl rfl rfl)) ?_
       refine HL.nil (fun w_413 st_414 => ?_)
       refine WL.nil ?_
       refine QW.then_n ?_
       obtain ⟨c_415, H⟩ := H
       have h_416 : ((gn l_378 (x_392.toNat)) != ((gx l_341_1 (x_392.toNat)).1)) = false := (bne_eq_false_iff_eq.mpr (Decidable.not_not.mp c_415))
       refine CW.cf rfl h_416 ?_
       refine CW.skip ?_
       refine QW.blk_n ?_
       refine QW.then_n ?_
       refine CW.region ?_
       refine WL.val Wanted.none (Runs.move rfl) ?_
       refine WL.val Wanted.none (Runs.add rfl rfl rfl) ?_
       refine WL.val Wanted.none (Runs.assign rfl) ?_
       refine WL.nil ?_
       exact QW.at _ (by repeat' constructor) ⟨T_389, b_391, IntKind.i64.wrap (x_392 + 1), rfl, H, hs_390, st_414⟩
      ·have h_397 : (decide (x_392 < (l_378.length : Int))) = false := (decide_eq_false c_396)
       refine CW.cf rfl h_397 ?_
       refine CW.exit ?_
       refine QW.then_x ?_
       refine QW.then_x ?_
       refine QW.blk_x ?_
       refine QW.blk_n ?_
       refine QW.then_n ?_
       refine CW.region ?_
       refine WL.val Wanted.none (Runs.move rfl) ?_
       refine WL.val Wanted.none (Runs.add rfl rfl rfl) ?_
       refine WL.val Wanted.none (Runs.assign rfl) ?_
       refine WL.nil ?_
       have st_394' := (St.pickT (L := [_, _, _, _, _, _, _, _]) st_394 [7, 0, 1] (by decide))
       exact QW.at _ (by repeat' constructor) ⟨T_389, A_367_1, c_369_1, n_368_1, x_371_1, l_370_1, a_337_0, A_338_1, n_339_1, c_340_1, l_341_1, a_366_0, b_391, IntKind.i64.wrap (x_64 + 1), rfl, H, ((((hs_48.trans hs_311).trans hs_335).trans hs_365).trans hs_390), hn_372_1, (hx_373_1.mono (fun _ h_ => hs_390.1 _ h_)), (hb_343_1.mono (fun _ h_ => hs_390.1 _ (hs_365.1 _ h_)) (fun _ h_ => hs_390.1 _ (hs_365.1 _ h_))), st_394'⟩
     ·have h_306 : ((bits .and .i64 ((gx l1 (x_64.toNat)).1) 7) == 2) = false := (beq_eq_false_iff_ne.mpr c_305)
      refine CW.cf rfl h_306 ?_
      refine CW.region ?_
      refine WL.val Wanted.none (Runs.eql rfl rfl rfl) ?_
      refine WL.val Wanted.none (Runs.assign rfl) ?_
      refine WL.nil ?_
      refine QW.then_n ?_
      rcases H with ⟨c_440, H⟩ | ⟨c_440, H⟩
      ·have h_441 : ((bits .and .i64 ((gx l1 (x_64.toNat)).1) 7) == 3) = true := (beq_iff_eq.mpr c_440)
       refine CW.ct rfl h_441 ?_
       refine CW.seq ?_
       refine CW.region ?_
       refine WL.val Wanted.none (Runs.move rfl) ?_
       refine WL.val Wanted.none (Runs.fieldAddr (off := 1) (p := 1) fld41_1 rfl rfl rfl) ?_
       refine WL.val Wanted.none (Runs.load nagg29 rfl (st_95.cell (k := 1) rfl (part_one (u := .int .u64 ((gx l1 (x_64.toNat)).2.1)) (pre := (([.int .i64 ((gx l1 (x_64.toNat)).1)] : Cells))) (post := (([.slice A_82 n_83 c_84] : Cells) ++ ([.bool ((gx l1 (x_64.toNat)).2.2.2)] : Cells))) (by first | rfl | simp only [List.append_assoc, List.append_nil, List.nil_append, List.cons_append]) (by first | rfl | simp only [List.length_append, List.length_cons, List.length_nil, iv_length])))) ?_
       have st_442 := (St.pickT (L := [_, _, _, _, _]) st_95 [3, 4, 0, 1, 2] (by decide))
       replace st_442 : St w w_94 (.cells b_10 (([.int .i64 x_62] : Cells) ++ ([.slice A_53 n_55 c_54] : Cells)) 57 :: .sl A_53 c_54 n_55 x_51 60 3 :: .sl A_98 c_99 n_100 (iv .u8 r_97) 5 1 :: .cells B_87 (([.int .i64 ((gx l1 (x_64.toNat)).1)] : Cells) ++ (([.int .u64 ((gx l1 (x_64.toNat)).2.1)] : Cells) ++ (([.slice A_82 n_83 c_84] : Cells) ++ ([.bool ((gx l1 (x_64.toNat)).2.2.2)] : Cells)))) 41 :: .cells B_22 (([.int .i64 x_56] : Cells) ++ ([.slice A_57 n_58 c_59] : Cells)) 39 :: (T_47 ++ R)) := st_442
       have st_443 : St w w_94 (.cells b_10 (([.int .i64 x_62] : Cells) ++ ([.slice A_53 n_55 c_54] : Cells)) 57 :: .sl A_53 c_54 n_55 x_51 60 3 :: (T_47 ++ (.sl A_98 c_99 n_100 (iv .u8 r_97) 5 1 :: .cells B_87 (([.int .i64 ((gx l1 (x_64.toNat)).1)] : Cells) ++ (([.int .u64 ((gx l1 (x_64.toNat)).2.1)] : Cells) ++ (([.slice A_82 n_83 c_84] : Cells) ++ ([.bool ((gx l1 (x_64.toNat)).2.2.2)] : Cells)))) 41 :: .cells B_22 (([.int .i64 x_56] : Cells) ++ ([.slice A_57 n_58 c_59] : Cells)) 39 :: R))) := St.hide (A := [_, _]) (B := [_, _, _]) (T := T_47) (R := R) st_442
       obtain ⟨a_447_0, l_451_1, l_459, a_463, hr_444, H⟩ := H
       refine WL.call Wanted.none ent12 rfl (buffers_Cache_Get.calls w w_94 T_47 (.sl A_98 c_99 n_100 (iv .u8 r_97) 5 1 :: .cells B_87 (([.int .i64 ((gx l1 (x_64.toNat)).1)] : Cells) ++ (([.int .u64 ((gx l1 (x_64.toNat)).2.1)] : Cells) ++ (([.slice A_82 n_83 c_84] : Cells) ++ ([.bool ((gx l1 (x_64.toNat)).2.2.2)] : Cells)))) 41 :: .cells B_22 (([.int .i64 x_56] : Cells) ++ ([.slice A_57 n_58 c_59] : Cells)) 39 :: R) x_62 l_49 ((gx l1 (x_64.toNat)).2.1) b_10 A_53 n_55 c_54 x_51  st_443 (hn_50) hx_52 a_447_0 l_451_1 l_459 a_463 hr_444) ?_
       rintro _ w_464 ⟨T_445, A_448_1, n_449_1, c_450_1, x_452_1, A_456, n_457, c_458, hs_446, hn_453_1, hx_454_1, hn_461, rfl, sc_466⟩
       have st_465 : St w w_464 (.cells b_10 (([.int .i64 a_447_0] : Cells) ++ ([.slice A_448_1 n_449_1 c_450_1] : Cells)) 57 :: .sl A_448_1 c_450_1 n_449_1 x_452_1 60 3 :: .sl A_456 c_458 n_457 (iv .u8 l_459) 5 1 :: .sl A_98 c_99 n_100 (iv .u8 r_97) 5 1 :: .cells B_87 (([.int .i64 ((gx l1 (x_64.toNat)).1)] : Cells) ++ (([.int .u64 ((gx l1 (x_64.toNat)).2.1)] : Cells) ++ (([.slice A_82 n_83 c_84] : Cells) ++ ([.bool ((gx l1 (x_64.toNat)).2.2.2)] : Cells)))) 41 :: .cells B_22 (([.int .i64 x_56] : Cells) ++ ([.slice A_57 n_58 c_59] : Cells)) 39 :: (T_445 ++ R)) := St.unhide (A := [_, _, _]) (B := [_, _, _]) (T := T_445) (R := R) sc_466
       refine ⟨_, rfl, ?_⟩
       refine WL.val Wanted.none (Runs.move rfl) ?_
       refine WL.val Wanted.none (Runs.extract rfl rfl) ?_
       refine WL.val Wanted.none (Runs.extract rfl rfl) ?_
       refine WL.val Wanted.none (Runs.assign rfl) ?_
       refine WL.val Wanted.none (Runs.assign rfl) ?_
       refine WL.nil ?_
       refine QW.then_n ?_
       refine CW.seq ?_
       refine CW.region ?_
       refine WL.val Wanted.none (Runs.load_mid row39 rfl st_465 (i := 5) rfl (part_mid (pre := (([] : Cells))) (mid := (([.int .i64 x_56] : Cells) ++ ([.slice A_57 n_58 c_59] : Cells))) (post := (([] : Cells))) (by first | rfl | simp only [List.append_assoc, List.append_nil, List.nil_append, List.cons_append]) (by first | rfl | simp only [List.length_append, List.length_cons, List.length_nil, iv_length]) (by first | rfl | simp only [List.length_append, List.length_cons, List.length_nil, iv_length])) (by first | rfl | simp only [List.length_append, List.length_cons, List.length_nil, iv_length])) ?_
       refine WL.val Wanted.none (Runs.fieldAddr (off := 1) (p := 1) fld41_1 rfl rfl rfl) ?_
       refine WL.val Wanted.none (Runs.load nagg29 rfl (st_465.cell (k := 4) rfl (part_one (u := .int .u64 ((gx l1 (x_64.toNat)).2.1)) (pre := (([.int .i64 ((gx l1 (x_64.toNat)).1)] : Cells))) (post := (([.slice A_82 n_83 c_84] : Cells) ++ ([.bool ((gx l1 (x_64.toNat)).2.2.2)] : Cells))) (by first | rfl | simp only [List.append_assoc, List.append_nil, List.nil_append, List.cons_append]) (by first | rfl | simp only [List.length_append, List.length_cons, List.length_nil, iv_length])))) ?_
       have st_467 : St w w_464 ((T_445 ++ (.cells b_10 (([.int .i64 a_447_0] : Cells) ++ ([.slice A_448_1 n_449_1 c_450_1] : Cells)) 57 :: .sl A_448_1 c_450_1 n_449_1 x_452_1 60 3 :: .sl A_456 c_458 n_457 (iv .u8 l_459) 5 1 :: .sl A_98 c_99 n_100 (iv .u8 r_97) 5 1 :: .cells B_87 (([.int .i64 ((gx l1 (x_64.toNat)).1)] : Cells) ++ (([.int .u64 ((gx l1 (x_64.toNat)).2.1)] : Cells) ++ (([.slice A_82 n_83 c_84] : Cells) ++ ([.bool ((gx l1 (x_64.toNat)).2.2.2)] : Cells)))) 41 :: .cells B_22 (([.int .i64 x_56] : Cells) ++ ([.slice A_57 n_58 c_59] : Cells)) 39 :: R))) := St.hide (A := []) (B := [_, _, _, _, _, _]) (T := T_445) (R := R) st_465
       obtain ⟨a_472_0, l_476_1, a_480, a_482, hr_468, H⟩ := H
       refine WL.call Wanted.none ent15 rfl (reliquaryref15_Get.calls w w_464 T_445 (.cells b_10 (([.int .i64 a_447_0] : Cells) ++ ([.slice A_448_1 n_449_1 c_450_1] : Cells)) 57 :: .sl A_448_1 c_450_1 n_449_1 x_452_1 60 3 :: .sl A_456 c_458 n_457 (iv .u8 l_459) 5 1 :: .sl A_98 c_99 n_100 (iv .u8 r_97) 5 1 :: .cells B_87 (([.int .i64 ((gx l1 (x_64.toNat)).1)] : Cells) ++ (([.int .u64 ((gx l1 (x_64.toNat)).2.1)] : Cells) ++ (([.slice A_82 n_83 c_84] : Cells) ++ ([.bool ((gx l1 (x_64.toNat)).2.2.2)] : Cells)))) 41 :: .cells B_22 (([.int .i64 x_56] : Cells) ++ ([.slice A_57 n_58 c_59] : Cells)) 39 :: R) x_56 l_60 ((gx l1 (x_64.toNat)).2.1) A_57 n_58 c_59  st_467 (hb_61.mono (fun _ h_ => hs_446.1 _ h_) (fun _ h_ => hs_446.1 _ h_)) a_472_0 l_476_1 a_480 a_482 hr_468) ?_
       rintro _ w_483 ⟨T_469, A_473_1, n_474_1, c_475_1, hs_470, hb_478_1, rfl, sc_485⟩
       have st_484 : St w w_483 (.cells b_10 (([.int .i64 a_447_0] : Cells) ++ ([.slice A_448_1 n_449_1 c_450_1] : Cells)) 57 :: .sl A_448_1 c_450_1 n_449_1 x_452_1 60 3 :: .sl A_456 c_458 n_457 (iv .u8 l_459) 5 1 :: .sl A_98 c_99 n_100 (iv .u8 r_97) 5 1 :: .cells B_87 (([.int .i64 ((gx l1 (x_64.toNat)).1)] : Cells) ++ (([.int .u64 ((gx l1 (x_64.toNat)).2.1)] : Cells) ++ (([.slice A_82 n_83 c_84] : Cells) ++ ([.bool ((gx l1 (x_64.toNat)).2.2.2)] : Cells)))) 41 :: .cells B_22 (([.int .i64 x_56] : Cells) ++ ([.slice A_57 n_58 c_59] : Cells)) 39 :: (T_469 ++ R)) := St.unhide (A := []) (B := [_, _, _, _, _, _]) (T := T_469) (R := R) sc_485
       refine ⟨_, rfl, ?_⟩
       refine WL.val Wanted.none (Runs.move rfl) ?_
       refine WL.val Wanted.none (Runs.extract rfl rfl) ?_
       refine WL.val Wanted.none (Runs.extract rfl rfl) ?_
       refine WL.val Wanted.none (Runs.extract rfl rfl) ?_
       refine WL.alloc st_484 zero39 ?_
       intro B_486 w_487 st_488
       replace st_488 : St w w_487 (.cells B_486 (([.int .i64 0] : Cells) ++ ([.slice none 0 0] : Cells)) 39 :: .cells b_10 (([.int .i64 a_447_0] : Cells) ++ ([.slice A_448_1 n_449_1 c_450_1] : Cells)) 57 :: .sl A_448_1 c_450_1 n_449_1 x_452_1 60 3 :: .sl A_456 c_458 n_457 (iv .u8 l_459) 5 1 :: .sl A_98 c_99 n_100 (iv .u8 r_97) 5 1 :: .cells B_87 (([.int .i64 ((gx l1 (x_64.toNat)).1)] : Cells) ++ (([.int .u64 ((gx l1 (x_64.toNat)).2.1)] : Cells) ++ (([.slice A_82 n_83 c_84] : Cells) ++ ([.bool ((gx l1 (x_64.toNat)).2.2.2)] : Cells)))) 41 :: .cells B_22 (([.int .i64 x_56] : Cells) ++ ([.slice A_57 n_58 c_59] : Cells)) 39 :: (T_469 ++ R)) := st_488
       refine WL.store_mid (i := 0) (pre := (([] : Cells))) (mid := (([.int .i64 0] : Cells) ++ ([.slice none 0 0] : Cells))) (post := (([] : Cells))) (ms := (([.int .i64 a_472_0] : Cells) ++ ([.slice A_473_1 n_474_1 c_475_1] : Cells))) st_488 rfl row39 (by first | rfl | simp only [List.append_assoc, List.append_nil, List.nil_append, List.cons_append]) (by first | rfl | simp only [List.length_append, List.length_cons, List.length_nil, iv_length]) rfl rfl (by first | rfl | simp only [List.length_append, List.length_cons, List.length_nil, iv_length]) (by first | rfl | simp only [List.length_append, List.length_cons, List.length_nil, iv_length]) (by intro u hu; simp only [List.mem_append, List.mem_singleton] at hu; rcases hu with hu | hu <;> first | exact one_iv _ _ u hu | (subst hu; rfl)) ?_
       intro w_490 st_491
       replace st_491 : St w w_490 (.cells B_486 (([.int .i64 a_472_0] : Cells) ++ ([.slice A_473_1 n_474_1 c_475_1] : Cells)) 39 :: .cells b_10 (([.int .i64 a_447_0] : Cells) ++ ([.slice A_448_1 n_449_1 c_450_1] : Cells)) 57 :: .sl A_448_1 c_450_1 n_449_1 x_452_1 60 3 :: .sl A_456 c_458 n_457 (iv .u8 l_459) 5 1 :: .sl A_98 c_99 n_100 (iv .u8 r_97) 5 1 :: .cells B_87 (([.int .i64 ((gx l1 (x_64.toNat)).1)] : Cells) ++ (([.int .u64 ((gx l1 (x_64.toNat)).2.1)] : Cells) ++ (([.slice A_82 n_83 c_84] : Cells) ++ ([.bool ((gx l1 (x_64.toNat)).2.2.2)] : Cells)))) 41 :: .cells B_22 (([.int .i64 x_56] : Cells) ++ ([.slice A_57 n_58 c_59] : Cells)) 39 :: (T_469 ++ R)) := by have e_ : (([.int .i64 a_472_0] : Cells) ++ ([.slice A_473_1 n_474_1 c_475_1] : Cells)) = (([] : Cells)) ++ ((([.int .i64 a_472_0] : Cells) ++ ([.slice A_473_1 n_474_1 c_475_1] : Cells)) ++ (([] : Cells))) := (by first | rfl | simp only [List.append_assoc, List.append_nil, List.nil_append, List.cons_append]); have h_ : St w w_490 (.cells B_486 ((([] : Cells)) ++ ((([.int .i64 a_472_0] : Cells) ++ ([.slice A_473_1 n_474_1 c_475_1] : Cells)) ++ (([] : Cells)))) 39 :: .cells b_10 (([.int .i64 a_447_0] : Cells) ++ ([.slice A_448_1 n_449_1 c_450_1] : Cells)) 57 :: .sl A_448_1 c_450_1 n_449_1 x_452_1 60 3 :: .sl A_456 c_458 n_457 (iv .u8 l_459) 5 1 :: .sl A_98 c_99 n_100 (iv .u8 r_97) 5 1 :: .cells B_87 (([.int .i64 ((gx l1 (x_64.toNat)).1)] : Cells) ++ (([.int .u64 ((gx l1 (x_64.toNat)).2.1)] : Cells) ++ (([.slice A_82 n_83 c_84] : Cells) ++ ([.bool ((gx l1 (x_64.toNat)).2.2.2)] : Cells)))) 41 :: .cells B_22 (([.int .i64 x_56] : Cells) ++ ([.slice A_57 n_58 c_59] : Cells)) 39 :: (T_469 ++ R)) := st_491; rw [← e_] at h_; exact h_
       refine WL.val Wanted.none (Runs.assign rfl) ?_
       refine WL.val Wanted.none (Runs.assign rfl) ?_
       refine WL.nil ?_
       refine QW.then_n ?_
       refine CW.seq ?_
       refine CW.region ?_
       refine WL.val Wanted.none (Runs.load_mid row39 rfl st_491 (i := 0) rfl (part_mid (pre := (([] : Cells))) (mid := (([.int .i64 a_472_0] : Cells) ++ ([.slice A_473_1 n_474_1 c_475_1] : Cells))) (post := (([] : Cells))) (by first | rfl | simp only [List.append_assoc, List.append_nil, List.nil_append, List.cons_append]) (by first | rfl | simp only [List.length_append, List.length_cons, List.length_nil, iv_length]) (by first | rfl | simp only [List.length_append, List.length_cons, List.length_nil, iv_length])) (by first | rfl | simp only [List.length_append, List.length_cons, List.length_nil, iv_length])) ?_
       refine WL.store_mid (i := 6) (pre := (([] : Cells))) (mid := (([.int .i64 x_56] : Cells) ++ ([.slice A_57 n_58 c_59] : Cells))) (post := (([] : Cells))) (ms := (([.int .i64 a_472_0] : Cells) ++ ([.slice A_473_1 n_474_1 c_475_1] : Cells))) st_491 rfl row39 (by first | rfl | simp only [List.append_assoc, List.append_nil, List.nil_append, List.cons_append]) (by first | rfl | simp only [List.length_append, List.length_cons, List.length_nil, iv_length]) rfl rfl (by first | rfl | simp only [List.length_append, List.length_cons, List.length_nil, iv_length]) (by first | rfl | simp only [List.length_append, List.length_cons, List.length_nil, iv_length]) (by intro u hu; simp only [List.mem_append, List.mem_singleton] at hu; rcases hu with hu | hu <;> first | exact one_iv _ _ u hu | (subst hu; rfl)) ?_
       intro w_492 st_493
       replace st_493 : St w w_492 (.cells B_486 (([.int .i64 a_472_0] : Cells) ++ ([.slice A_473_1 n_474_1 c_475_1] : Cells)) 39 :: .cells b_10 (([.int .i64 a_447_0] : Cells) ++ ([.slice A_448_1 n_449_1 c_450_1] : Cells)) 57 :: .sl A_448_1 c_450_1 n_449_1 x_452_1 60 3 :: .sl A_456 c_458 n_457 (iv .u8 l_459) 5 1 :: .sl A_98 c_99 n_100 (iv .u8 r_97) 5 1 :: .cells B_87 (([.int .i64 ((gx l1 (x_64.toNat)).1)] : Cells) ++ (([.int .u64 ((gx l1 (x_64.toNat)).2.1)] : Cells) ++ (([.slice A_82 n_83 c_84] : Cells) ++ ([.bool ((gx l1 (x_64.toNat)).2.2.2)] : Cells)))) 41 :: .cells B_22 (([.int .i64 a_472_0] : Cells) ++ ([.slice A_473_1 n_474_1 c_475_1] : Cells)) 39 :: (T_469 ++ R)) := by have e_ : (([.int .i64 a_472_0] : Cells) ++ ([.slice A_473_1 n_474_1 c_475_1] : Cells)) = (([] : Cells)) ++ ((([.int .i64 a_472_0] : Cells) ++ ([.slice A_473_1 n_474_1 c_475_1] : Cells)) ++ (([] : Cells))) := (by first | rfl | simp only [List.append_assoc, List.append_nil, List.nil_append, List.cons_append]); have h_ : St w w_492 (.cells B_486 (([.int .i64 a_472_0] : Cells) ++ ([.slice A_473_1 n_474_1 c_475_1] : Cells)) 39 :: .cells b_10 (([.int .i64 a_447_0] : Cells) ++ ([.slice A_448_1 n_449_1 c_450_1] : Cells)) 57 :: .sl A_448_1 c_450_1 n_449_1 x_452_1 60 3 :: .sl A_456 c_458 n_457 (iv .u8 l_459) 5 1 :: .sl A_98 c_99 n_100 (iv .u8 r_97) 5 1 :: .cells B_87 (([.int .i64 ((gx l1 (x_64.toNat)).1)] : Cells) ++ (([.int .u64 ((gx l1 (x_64.toNat)).2.1)] : Cells) ++ (([.slice A_82 n_83 c_84] : Cells) ++ ([.bool ((gx l1 (x_64.toNat)).2.2.2)] : Cells)))) 41 :: .cells B_22 ((([] : Cells)) ++ ((([.int .i64 a_472_0] : Cells) ++ ([.slice A_473_1 n_474_1 c_475_1] : Cells)) ++ (([] : Cells)))) 39 :: (T_469 ++ R)) := st_493; rw [← e_] at h_; exact h_
       refine WL.nil ?_
       refine QW.then_n ?_
       refine CW.region ?_
       refine WL.val Wanted.none (Runs.move rfl) ?_
       refine WL.val Wanted.none (Runs.bytes_str Try.underlying22 Try.underlying5 Try.underlying9 rfl (st_493.src_sl (k := 3) rfl) hn_461) ?_
       refine WL.val Wanted.none (Runs.move rfl) ?_
       refine WL.val Wanted.none (Runs.eqs rfl rfl rfl) ?_
       refine WL.val Wanted.none (Runs.move rfl) ?_
       obtain ⟨c_494, H⟩ := H
       have h_495 : ((strOfNums l_459).toList == a_480.toList) = true := (beq_iff_eq.mpr c_494)
       refine WL.on ?_ ?_; exact Wanted.guard (dj := 109) (by rfl) (evb (by rfl) h_495) (by rfl)
       refine WL.val Wanted.none (Runs.move rfl) ?_
       refine WL.on ?_ ?_; exact Wanted.guard (dj := 109) (by rfl) (evb (by rfl) h_495) (by rfl)
       refine WL.val Wanted.none (Runs.move rfl) ?_
       refine WL.on ?_ ?_; exact Wanted.guard (dj := 109) (by rfl) (evb (by rfl) h_495) (by rfl)
       refine WL.val Wanted.none (Runs.eqb Try.underlying4 rfl rfl rfl) ?_
       refine WL.val Wanted.none (Runs.pick_t (evb rfl h_495) rfl) ?_
       refine WL.val Wanted.none (Runs.assign rfl) ?_
       refine WL.nil ?_
       refine QW.blk_n ?_
       refine QW.then_n ?_
       refine CW.seq ?_
       refine CW.region ?_
       refine WL.val Wanted.none (Runs.move rfl) ?_
       have st_496 := (St.pickT (L := [_, _, _, _, _, _, _]) st_493 [1, 2, 0, 3, 4, 5, 6] (by decide))
       replace st_496 : St w w_492 (.cells b_10 (([.int .i64 a_447_0] : Cells) ++ ([.slice A_448_1 n_449_1 c_450_1] : Cells)) 57 :: .sl A_448_1 c_450_1 n_449_1 x_452_1 60 3 :: .cells B_486 (([.int .i64 a_472_0] : Cells) ++ ([.slice A_473_1 n_474_1 c_475_1] : Cells)) 39 :: .sl A_456 c_458 n_457 (iv .u8 l_459) 5 1 :: .sl A_98 c_99 n_100 (iv .u8 r_97) 5 1 :: .cells B_87 (([.int .i64 ((gx l1 (x_64.toNat)).1)] : Cells) ++ (([.int .u64 ((gx l1 (x_64.toNat)).2.1)] : Cells) ++ (([.slice A_82 n_83 c_84] : Cells) ++ ([.bool ((gx l1 (x_64.toNat)).2.2.2)] : Cells)))) 41 :: .cells B_22 (([.int .i64 a_472_0] : Cells) ++ ([.slice A_473_1 n_474_1 c_475_1] : Cells)) 39 :: (T_469 ++ R)) := st_496
       have st_497 : St w w_492 (.cells b_10 (([.int .i64 a_447_0] : Cells) ++ ([.slice A_448_1 n_449_1 c_450_1] : Cells)) 57 :: .sl A_448_1 c_450_1 n_449_1 x_452_1 60 3 :: (T_469 ++ (.cells B_486 (([.int .i64 a_472_0] : Cells) ++ ([.slice A_473_1 n_474_1 c_475_1] : Cells)) 39 :: .sl A_456 c_458 n_457 (iv .u8 l_459) 5 1 :: .sl A_98 c_99 n_100 (iv .u8 r_97) 5 1 :: .cells B_87 (([.int .i64 ((gx l1 (x_64.toNat)).1)] : Cells) ++ (([.int .u64 ((gx l1 (x_64.toNat)).2.1)] : Cells) ++ (([.slice A_82 n_83 c_84] : Cells) ++ ([.bool ((gx l1 (x_64.toNat)).2.2.2)] : Cells)))) 41 :: .cells B_22 (([.int .i64 a_472_0] : Cells) ++ ([.slice A_473_1 n_474_1 c_475_1] : Cells)) 39 :: R))) := St.hide (A := [_, _]) (B := [_, _, _, _, _]) (T := T_469) (R := R) st_496
       obtain ⟨a_501_0, l_505_1, l_513, hr_498, H⟩ := H
       refine WL.call Wanted.none ent13 rfl (buffers_Cache_Blocks.calls w w_492 T_469 (.cells B_486 (([.int .i64 a_472_0] : Cells) ++ ([.slice A_473_1 n_474_1 c_475_1] : Cells)) 39 :: .sl A_456 c_458 n_457 (iv .u8 l_459) 5 1 :: .sl A_98 c_99 n_100 (iv .u8 r_97) 5 1 :: .cells B_87 (([.int .i64 ((gx l1 (x_64.toNat)).1)] : Cells) ++ (([.int .u64 ((gx l1 (x_64.toNat)).2.1)] : Cells) ++ (([.slice A_82 n_83 c_84] : Cells) ++ ([.bool ((gx l1 (x_64.toNat)).2.2.2)] : Cells)))) 41 :: .cells B_22 (([.int .i64 a_472_0] : Cells) ++ ([.slice A_473_1 n_474_1 c_475_1] : Cells)) 39 :: R) a_447_0 l_451_1 b_10 A_448_1 n_449_1 c_450_1 x_452_1  st_497 (hn_453_1) (hx_454_1.mono (fun _ h_ => hs_470.1 _ h_)) a_501_0 l_505_1 l_513 hr_498) ?_
       rintro _ w_516 ⟨T_499, A_502_1, n_503_1, c_504_1, x_506_1, A_510, n_511, c_512, hs_500, hn_507_1, hx_508_1, hn_515, rfl, sc_518⟩
       have st_517 : St w w_516 (.cells b_10 (([.int .i64 a_501_0] : Cells) ++ ([.slice A_502_1 n_503_1 c_504_1] : Cells)) 57 :: .sl A_502_1 c_504_1 n_503_1 x_506_1 60 3 :: .sl A_510 c_512 n_511 (iv .u64 l_513) 29 1 :: .cells B_486 (([.int .i64 a_472_0] : Cells) ++ ([.slice A_473_1 n_474_1 c_475_1] : Cells)) 39 :: .sl A_456 c_458 n_457 (iv .u8 l_459) 5 1 :: .sl A_98 c_99 n_100 (iv .u8 r_97) 5 1 :: .cells B_87 (([.int .i64 ((gx l1 (x_64.toNat)).1)] : Cells) ++ (([.int .u64 ((gx l1 (x_64.toNat)).2.1)] : Cells) ++ (([.slice A_82 n_83 c_84] : Cells) ++ ([.bool ((gx l1 (x_64.toNat)).2.2.2)] : Cells)))) 41 :: .cells B_22 (([.int .i64 a_472_0] : Cells) ++ ([.slice A_473_1 n_474_1 c_475_1] : Cells)) 39 :: (T_499 ++ R)) := St.unhide (A := [_, _, _]) (B := [_, _, _, _, _]) (T := T_499) (R := R) sc_518
       refine ⟨_, rfl, ?_⟩
       refine WL.val Wanted.none (Runs.assign rfl) ?_
       refine WL.nil ?_
       refine QW.then_n ?_
       refine CW.seq ?_
       refine CW.seq ?_
       refine CW.region ?_
       refine WL.val Wanted.none (Runs.move rfl) ?_
       refine WL.val Wanted.none (Runs.not rfl rfl) ?_
       refine WL.val Wanted.none (Runs.move rfl) ?_
       obtain ⟨c_519, H⟩ := H
       have h_520 : (!(a_463 == a_482)) = false := (not_f (beq_iff_eq.mpr (Decidable.not_not.mp c_519)))
       refine WL.on ?_ ?_; exact Wanted.guard (dj := 169) (by rfl) (evb (by rfl) h_520) (by rfl)
       refine WL.val Wanted.none (Runs.move rfl) ?_
       refine WL.on ?_ ?_; exact Wanted.guard (dj := 169) (by rfl) (evb (by rfl) h_520) (by rfl)
       refine WL.val Wanted.none (Runs.len_sl Try.underlying33 rfl (by rw [hn_515])) ?_
       refine WL.on ?_ ?_; exact Wanted.guard (dj := 169) (by rfl) (evb (by rfl) h_520) (by rfl)
       refine WL.val Wanted.none (Runs.fieldAddr (off := 1) (p := 1) fld39_1 rfl rfl rfl) ?_
       refine WL.on ?_ ?_; exact Wanted.guard (dj := 169) (by rfl) (evb (by rfl) h_520) (by rfl)
       refine WL.val Wanted.none (Runs.load nagg37 rfl (st_517.cell (k := 7) rfl (part_one (u := .slice A_473_1 n_474_1 c_475_1) (pre := (([.int .i64 a_472_0] : Cells))) (post := (([] : Cells))) (by first | rfl | simp only [List.append_assoc, List.append_nil, List.nil_append, List.cons_append]) (by first | rfl | simp only [List.length_append, List.length_cons, List.length_nil, iv_length])))) ?_
       refine WL.on ?_ ?_; exact Wanted.guard (dj := 169) (by rfl) (evb (by rfl) h_520) (by rfl)
       refine WL.val Wanted.none (Runs.len_sl Try.underlying37 rfl (by rw [hb_478_1.1])) ?_
       refine WL.on ?_ ?_; exact Wanted.guard (dj := 169) (by rfl) (evb (by rfl) h_520) (by rfl)
       refine WL.val Wanted.none (Runs.neq rfl rfl rfl) ?_
       refine WL.val Wanted.none (Runs.pick_f (evb rfl h_520) rfl) ?_
       refine WL.nil ?_
       refine QW.then_n ?_
       obtain ⟨c_521, H⟩ := H
       have h_522 : ((l_513.length : Int) != (l_476_1.length : Int)) = false := (bne_eq_false_iff_eq.mpr (Decidable.not_not.mp c_521))
       refine CW.cf rfl h_522 ?_
       refine CW.skip ?_
       refine QW.then_n ?_
       refine CW.seq ?_
       refine CW.region ?_
       refine WL.val Wanted.none (Runs.assign rfl) ?_
       refine WL.nil ?_
       refine QW.then_n ?_
       refine CW.block ?_
       obtain ⟨k_523, H⟩ := H
       refine CW.sub [(1, .slice A1 n1 c1), (4, .bool b_63), (6, .pointer (some ⟨b_10, 0, none⟩)), (7, .pointer (some ⟨B_22, 0, none⟩)), (8, .int .i64 x_64), (38, .int .i64 x_64), (39, .slice A1 n1 c1), (40, .int .i64 (l1.length : Int)), (41, .bool (decide (x_64 < (l1.length : Int)))), (42, .bool (decide (x_64 < (l1.length : Int)))), (43, .int .i64 x_64), (44, .bool (decide (x_64 < 60))), (45, .bool (decide (x_64 < 60))), (48, .slice A1 n1 c1), (49, .int .i64 x_64), (50, .pointer (some (a_77.add ((x_64.toNat) * 4)))), (51, .agg (([.int .i64 ((gx l1 (x_64.toNat)).1)] : Cells) ++ (([.int .u64 ((gx l1 (x_64.toNat)).2.1)] : Cells) ++ (([.slice A_82 n_83 c_84] : Cells) ++ ([.bool ((gx l1 (x_64.toNat)).2.2.2)] : Cells)))).toArray), (9, .pointer (some ⟨B_87, 0, none⟩)), (52, .pointer (some ⟨B_87, 2, none⟩)), (53, .slice A_82 n_83 c_84), (54, .pointer (some ⟨B_87, 3, none⟩)), (55, .bool ((gx l1 (x_64.toNat)).2.2.2)), (56, .slice A_98 n_100 c_99), (10, .slice A_98 n_100 c_99), (11, .bool (a_463 == a_482)), (57, .pointer (some ⟨B_87, 0, none⟩)), (58, .int .i64 ((gx l1 (x_64.toNat)).1)), (59, .int .i64 (bits .and .i64 ((gx l1 (x_64.toNat)).1) 7)), (66, .bool ((bits .and .i64 ((gx l1 (x_64.toNat)).1) 7) == 0)), (65, .bool ((bits .and .i64 ((gx l1 (x_64.toNat)).1) 7) == 1)), (67, .bool ((bits .and .i64 ((gx l1 (x_64.toNat)).1) 7) == 1)), (87, .bool ((bits .and .i64 ((gx l1 (x_64.toNat)).1) 7) == 2)), (86, .bool ((bits .and .i64 ((gx l1 (x_64.toNat)).1) 7) == 3)), (88, .bool ((bits .and .i64 ((gx l1 (x_64.toNat)).1) 7) == 3)), (90, .pointer (some ⟨b_10, 0, none⟩)), (91, .pointer (some ⟨B_87, 1, none⟩)), (92, .int .u64 ((gx l1 (x_64.toNat)).2.1)), (93, .tuple #[.slice A_456 n_457 c_458, .bool a_463]), (89, .tuple #[.slice A_456 n_457 c_458, .bool a_463]), (94, .slice A_456 n_457 c_458), (95, .bool a_463), (15, .slice A_456 n_457 c_458), (16, .bool a_463), (97, .agg (([.int .i64 x_56] : Cells) ++ ([.slice A_57 n_58 c_59] : Cells)).toArray), (98, .pointer (some ⟨B_87, 1, none⟩)), (99, .int .u64 ((gx l1 (x_64.toNat)).2.1)), (100, .tuple #[.agg (([.int .i64 a_472_0] : Cells) ++ ([.slice A_473_1 n_474_1 c_475_1] : Cells)).toArray, .string a_480, .bool a_482]), (96, .tuple #[.agg (([.int .i64 a_472_0] : Cells) ++ ([.slice A_473_1 n_474_1 c_475_1] : Cells)).toArray, .string a_480, .bool a_482]), (101, .agg (([.int .i64 a_472_0] : Cells) ++ ([.slice A_473_1 n_474_1 c_475_1] : Cells)).toArray), (102, .string a_480), (103, .bool a_482), (17, .pointer (some ⟨B_486, 0, none⟩)), (18, .string a_480), (19, .bool a_482), (104, .agg (([.int .i64 a_472_0] : Cells) ++ ([.slice A_473_1 n_474_1 c_475_1] : Cells)).toArray), (105, .slice A_456 n_457 c_458), (106, .string (strOfNums l_459)), (107, .string a_480), (108, .bool ((strOfNums l_459).toList == a_480.toList)), (109, .bool ((strOfNums l_459).toList == a_480.toList)), (110, .bool a_463), (111, .bool a_482), (112, .bool (a_463 == a_482)), (113, .bool (a_463 == a_482)), (165, .pointer (some ⟨b_10, 0, none⟩)), (166, .slice A_510 n_511 c_512), (29, .slice A_510 n_511 c_512), (167, .bool (a_463 == a_482)), (168, .bool (!(a_463 == a_482))), (169, .bool (!(a_463 == a_482))), (170, .slice A_510 n_511 c_512), (171, .int .i64 (l_513.length : Int)), (172, .pointer (some ⟨B_22, 1, none⟩)), (173, .slice A_473_1 n_474_1 c_475_1), (174, .int .i64 (l_476_1.length : Int)), (175, .bool ((l_513.length : Int) != (l_476_1.length : Int))), (176, .bool ((l_513.length : Int) != (l_476_1.length : Int))), (30, .int .i64 0)] (by repeat' constructor) ?_
       refine CW.loop (fun kL5 l_ w_ => ∃ (T_524 : Pool) (b_526 : Bool) (x_527 : Int), l_ = [(1, .slice A1 n1 c1), (4, .bool b_526), (6, .pointer (some ⟨b_10, 0, none⟩)), (7, .pointer (some ⟨B_22, 0, none⟩)), (8, .int .i64 x_64), (38, .int .i64 x_64), (39, .slice A1 n1 c1), (40, .int .i64 (l1.length : Int)), (41, .bool (decide (x_64 < (l1.length : Int)))), (42, .bool (decide (x_64 < (l1.length : Int)))), (43, .int .i64 x_64), (44, .bool (decide (x_64 < 60))), (45, .bool (decide (x_64 < 60))), (48, .slice A1 n1 c1), (49, .int .i64 x_64), (50, .pointer (some (a_77.add ((x_64.toNat) * 4)))), (51, .agg (([.int .i64 ((gx l1 (x_64.toNat)).1)] : Cells) ++ (([.int .u64 ((gx l1 (x_64.toNat)).2.1)] : Cells) ++ (([.slice A_82 n_83 c_84] : Cells) ++ ([.bool ((gx l1 (x_64.toNat)).2.2.2)] : Cells)))).toArray), (9, .pointer (some ⟨B_87, 0, none⟩)), (52, .pointer (some ⟨B_87, 2, none⟩)), (53, .slice A_82 n_83 c_84), (54, .pointer (some ⟨B_87, 3, none⟩)), (55, .bool ((gx l1 (x_64.toNat)).2.2.2)), (56, .slice A_98 n_100 c_99), (10, .slice A_98 n_100 c_99), (11, .bool (a_463 == a_482)), (57, .pointer (some ⟨B_87, 0, none⟩)), (58, .int .i64 ((gx l1 (x_64.toNat)).1)), (59, .int .i64 (bits .and .i64 ((gx l1 (x_64.toNat)).1) 7)), (66, .bool ((bits .and .i64 ((gx l1 (x_64.toNat)).1) 7) == 0)), (65, .bool ((bits .and .i64 ((gx l1 (x_64.toNat)).1) 7) == 1)), (67, .bool ((bits .and .i64 ((gx l1 (x_64.toNat)).1) 7) == 1)), (87, .bool ((bits .and .i64 ((gx l1 (x_64.toNat)).1) 7) == 2)), (86, .bool ((bits .and .i64 ((gx l1 (x_64.toNat)).1) 7) == 3)), (88, .bool ((bits .and .i64 ((gx l1 (x_64.toNat)).1) 7) == 3)), (90, .pointer (some ⟨b_10, 0, none⟩)), (91, .pointer (some ⟨B_87, 1, none⟩)), (92, .int .u64 ((gx l1 (x_64.toNat)).2.1)), (93, .tuple #[.slice A_456 n_457 c_458, .bool a_463]), (89, .tuple #[.slice A_456 n_457 c_458, .bool a_463]), (94, .slice A_456 n_457 c_458), (95, .bool a_463), (15, .slice A_456 n_457 c_458), (16, .bool a_463), (97, .agg (([.int .i64 x_56] : Cells) ++ ([.slice A_57 n_58 c_59] : Cells)).toArray), (98, .pointer (some ⟨B_87, 1, none⟩)), (99, .int .u64 ((gx l1 (x_64.toNat)).2.1)), (100, .tuple #[.agg (([.int .i64 a_472_0] : Cells) ++ ([.slice A_473_1 n_474_1 c_475_1] : Cells)).toArray, .string a_480, .bool a_482]), (96, .tuple #[.agg (([.int .i64 a_472_0] : Cells) ++ ([.slice A_473_1 n_474_1 c_475_1] : Cells)).toArray, .string a_480, .bool a_482]), (101, .agg (([.int .i64 a_472_0] : Cells) ++ ([.slice A_473_1 n_474_1 c_475_1] : Cells)).toArray), (102, .string a_480), (103, .bool a_482), (17, .pointer (some ⟨B_486, 0, none⟩)), (18, .string a_480), (19, .bool a_482), (104, .agg (([.int .i64 a_472_0] : Cells) ++ ([.slice A_473_1 n_474_1 c_475_1] : Cells)).toArray), (105, .slice A_456 n_457 c_458), (106, .string (strOfNums l_459)), (107, .string a_480), (108, .bool ((strOfNums l_459).toList == a_480.toList)), (109, .bool ((strOfNums l_459).toList == a_480.toList)), (110, .bool a_463), (111, .bool a_482), (112, .bool (a_463 == a_482)), (113, .bool (a_463 == a_482)), (165, .pointer (some ⟨b_10, 0, none⟩)), (166, .slice A_510 n_511 c_512), (29, .slice A_510 n_511 c_512), (167, .bool (a_463 == a_482)), (168, .bool (!(a_463 == a_482))), (169, .bool (!(a_463 == a_482))), (170, .slice A_510 n_511 c_512), (171, .int .i64 (l_513.length : Int)), (172, .pointer (some ⟨B_22, 1, none⟩)), (173, .slice A_473_1 n_474_1 c_475_1), (174, .int .i64 (l_476_1.length : Int)), (175, .bool ((l_513.length : Int) != (l_476_1.length : Int))), (176, .bool ((l_513.length : Int) != (l_476_1.length : Int))), (30, .int .i64 x_527)] ∧ reliquarylaw15_BuffersPlays.L5 x_64 a_472_0 l_476_1 a_501_0 l_505_1 l_513 (reliquarylaw15_BuffersPlays.L1 l1 kL1) kL5 b_526 x_527 ∧ (Pl T_499 T_524) ∧ St w w_ (.cells b_10 (([.int .i64 a_501_0] : Cells) ++ ([.slice A_502_1 n_503_1 c_504_1] : Cells)) 57 :: .sl A_502_1 c_504_1 n_503_1 x_506_1 60 3 :: .sl A_510 c_512 n_511 (iv .u64 l_513) 29 1 :: .cells B_486 (([.int .i64 a_472_0] : Cells) ++ ([.slice A_473_1 n_474_1 c_475_1] : Cells)) 39 :: .sl A_456 c_458 n_457 (iv .u8 l_459) 5 1 :: .sl A_98 c_99 n_100 (iv .u8 r_97) 5 1 :: .cells B_87 (([.int .i64 ((gx l1 (x_64.toNat)).1)] : Cells) ++ (([.int .u64 ((gx l1 (x_64.toNat)).2.1)] : Cells) ++ (([.slice A_82 n_83 c_84] : Cells) ++ ([.bool ((gx l1 (x_64.toNat)).2.2.2)] : Cells)))) 41 :: .cells B_22 (([.int .i64 a_472_0] : Cells) ++ ([.slice A_473_1 n_474_1 c_475_1] : Cells)) 39 :: (T_524 ++ R))) (k := k_523) ⟨T_499, b_63, 0, rfl, H, Pl.refl, st_517⟩ (fun _ _ h => by obtain ⟨_, _, _, _, h, _⟩ := h; exact h.elim) ?_
       rintro kL5 l_530 w_528 ⟨T_524, b_526, x_527, rfl, H, hs_525, st_529⟩
       refine CW.seq ?_
       refine CW.seq ?_
       refine CW.region ?_
       refine WL.val Wanted.none (Runs.move rfl) ?_
       refine WL.val Wanted.none (Runs.move rfl) ?_
       refine WL.val Wanted.none (Runs.len_sl Try.underlying33 rfl (by rw [hn_515])) ?_
       refine WL.val Wanted.none (Runs.lss rfl rfl rfl) ?_
       refine WL.nil ?_
       refine QW.then_n ?_
       rcases H with ⟨c_531, H⟩ | ⟨c_531, H⟩
       ·have h_532 : (decide (x_527 < (l_513.length : Int))) = true := (decide_eq_true c_531)
        refine CW.ct rfl h_532 ?_
        refine CW.skip ?_
        refine QW.then_n ?_
        refine CW.seq ?_
        refine CW.block ?_
        refine CW.seq ?_
        refine CW.region_qa wide (by kernel_rfl) st_529 ?_
        refine HL.val Wanted.none (fun wq sq => (Runs.move rfl)) ?_
        refine HL.val Wanted.none (fun wq sq => (Runs.move rfl)) ?_
        obtain ⟨⟨p_533, q_534⟩, H⟩ := H
        obtain ⟨a_535, e_536⟩ := (st_529.src_sl (k := 2) rfl).addr_iv (x_527.toNat) (by omega)
        refine HL.val Wanted.none (fun wq sq => (Runs.indexAddr Try.underlying33 cells29 (by decide) rfl e_536 rfl p_533 (by rw [hn_515]; exact q_534) (o := (x_527).toNat) (by first | rfl | omega))) ?_
        refine HL.val Wanted.none (fun wq sq => (Runs.load nagg29 rfl ((sq.src_sl (k := 2) rfl).cell_iv e_536 (by omega)))) ?_
        refine HL.val Wanted.none (fun wq sq => (Runs.fieldAddr (off := 1) (p := 1) fld39_1 rfl rfl rfl)) ?_
        refine HL.val Wanted.none (fun wq sq => (Runs.load nagg37 rfl (sq.cell (k := 7) rfl (part_one (u := .slice A_473_1 n_474_1 c_475_1) (pre := (([.int .i64 a_472_0] : Cells))) (post := (([] : Cells))) (by first | rfl | simp only [List.append_assoc, List.append_nil, List.nil_append, List.cons_append]) (by first | rfl | simp only [List.length_append, List.length_cons, List.length_nil, iv_length]))))) ?_
        refine HL.val Wanted.none (fun wq sq => (Runs.move rfl)) ?_
        obtain ⟨⟨p_537, q_538⟩, H⟩ := H
        obtain ⟨x_539, hs_540, hr_541⟩ := hb_478_1.2.2
        obtain ⟨a_542, e_543, ms_544, hc_545, hm_546⟩ := el_get (i := (x_527).toNat) ((hs_540.at st_529 (mem_T (A := [_, _, _, _, _, _, _, _]) (fun _ h_ => hs_525.1 _ (hs_500.1 _ h_))))) (hr_541.mono (fun _ h_ => hs_525.1 _ (hs_500.1 _ h_))) (fz51 w) (by decide) (by omega)
        obtain em_547 := inv51 hm_546
        replace em_547 : ms_544 = ([.int .u64 ((gx l_476_1 (x_527.toNat)).1)] : Cells) ++ (([.string ((gx l_476_1 (x_527.toNat)).2.1)] : Cells) ++ ([.int .i64 ((gx l_476_1 (x_527.toNat)).2.2)] : Cells)) := em_547
        subst em_547
        refine HL.val Wanted.none (fun wq sq => (Runs.indexAddr Try.underlying37 cells51 (by decide) rfl e_543 rfl p_537 (by rw [show n_474_1 = l_476_1.length from hb_478_1.1]; exact q_538) (o := (x_527.toNat) * 3) (by first | rfl | omega))) ?_
        refine HL.val Wanted.none (fun wq sq => (Runs.fieldAddrB (off := 0) fld51_0 rfl rfl rfl)) ?_
        refine HL.val Wanted.none (fun wq sq => (Runs.load nagg29 rfl (Src.cellAt (j := 0) (Src.cut ((hs_540.at sq (mem_T (A := [_, _, _, _, _, _, _, _]) (fun _ h_ => hs_525.1 _ (hs_500.1 _ h_))))) e_543 hc_545) rfl))) ?_
        refine HL.val Wanted.none (fun wq sq => (Runs.neq rfl rfl rfl)) ?_
        refine HL.nil (fun w_548 st_549 => ?_)
        refine WL.nil ?_
        refine QW.then_n ?_
        obtain ⟨c_550, H⟩ := H
        have h_551 : ((gn l_513 (x_527.toNat)) != ((gx l_476_1 (x_527.toNat)).1)) = false := (bne_eq_false_iff_eq.mpr (Decidable.not_not.mp c_550))
        refine CW.cf rfl h_551 ?_
        refine CW.skip ?_
        refine QW.blk_n ?_
        refine QW.then_n ?_
        refine CW.region ?_
        refine WL.val Wanted.none (Runs.move rfl) ?_
        refine WL.val Wanted.none (Runs.add rfl rfl rfl) ?_
        refine WL.val Wanted.none (Runs.assign rfl) ?_
        refine WL.nil ?_
        exact QW.at _ (by repeat' constructor) ⟨T_524, b_526, IntKind.i64.wrap (x_527 + 1), rfl, H, hs_525, st_549⟩
       ·have h_532 : (decide (x_527 < (l_513.length : Int))) = false := (decide_eq_false c_531)
        refine CW.cf rfl h_532 ?_
        refine CW.exit ?_
        refine QW.then_x ?_
        refine QW.then_x ?_
        refine QW.blk_x ?_
        refine QW.blk_n ?_
        refine QW.then_n ?_
        refine CW.region ?_
        refine WL.val Wanted.none (Runs.move rfl) ?_
        refine WL.val Wanted.none (Runs.add rfl rfl rfl) ?_
        refine WL.val Wanted.none (Runs.assign rfl) ?_
        refine WL.nil ?_
        have st_529' := (St.pickT (L := [_, _, _, _, _, _, _, _]) st_529 [7, 0, 1] (by decide))
        exact QW.at _ (by repeat' constructor) ⟨T_524, A_502_1, c_504_1, n_503_1, x_506_1, l_505_1, a_472_0, A_473_1, n_474_1, c_475_1, l_476_1, a_501_0, b_526, IntKind.i64.wrap (x_64 + 1), rfl, H, ((((hs_48.trans hs_446).trans hs_470).trans hs_500).trans hs_525), hn_507_1, (hx_508_1.mono (fun _ h_ => hs_525.1 _ h_)), (hb_478_1.mono (fun _ h_ => hs_525.1 _ (hs_500.1 _ h_)) (fun _ h_ => hs_525.1 _ (hs_500.1 _ h_))), st_529'⟩
      ·have h_441 : ((bits .and .i64 ((gx l1 (x_64.toNat)).1) 7) == 3) = false := (beq_eq_false_iff_ne.mpr c_440)
       refine CW.cf rfl h_441 ?_
       refine CW.seq ?_
       refine CW.region ?_
       refine WL.val Wanted.none (Runs.eql rfl rfl rfl) ?_
       refine WL.val Wanted.none (Runs.assign rfl) ?_
       refine WL.nil ?_
       refine QW.then_n ?_
       rcases H with ⟨c_575, H⟩ | ⟨c_575, H⟩
       ·have h_576 : ((bits .and .i64 ((gx l1 (x_64.toNat)).1) 7) == 4) = true := (beq_iff_eq.mpr c_575)
        refine CW.ct rfl h_576 ?_
        refine CW.seq ?_
        refine CW.region ?_
        refine WL.val Wanted.none (Runs.move rfl) ?_
        refine WL.val Wanted.none (Runs.fieldAddr (off := 1) (p := 1) fld41_1 rfl rfl rfl) ?_
        refine WL.val Wanted.none (Runs.load nagg29 rfl (st_95.cell (k := 1) rfl (part_one (u := .int .u64 ((gx l1 (x_64.toNat)).2.1)) (pre := (([.int .i64 ((gx l1 (x_64.toNat)).1)] : Cells))) (post := (([.slice A_82 n_83 c_84] : Cells) ++ ([.bool ((gx l1 (x_64.toNat)).2.2.2)] : Cells))) (by first | rfl | simp only [List.append_assoc, List.append_nil, List.nil_append, List.cons_append]) (by first | rfl | simp only [List.length_append, List.length_cons, List.length_nil, iv_length])))) ?_
        have st_577 := (St.pickT (L := [_, _, _, _, _]) st_95 [3, 4, 0, 1, 2] (by decide))
        replace st_577 : St w w_94 (.cells b_10 (([.int .i64 x_62] : Cells) ++ ([.slice A_53 n_55 c_54] : Cells)) 57 :: .sl A_53 c_54 n_55 x_51 60 3 :: .sl A_98 c_99 n_100 (iv .u8 r_97) 5 1 :: .cells B_87 (([.int .i64 ((gx l1 (x_64.toNat)).1)] : Cells) ++ (([.int .u64 ((gx l1 (x_64.toNat)).2.1)] : Cells) ++ (([.slice A_82 n_83 c_84] : Cells) ++ ([.bool ((gx l1 (x_64.toNat)).2.2.2)] : Cells)))) 41 :: .cells B_22 (([.int .i64 x_56] : Cells) ++ ([.slice A_57 n_58 c_59] : Cells)) 39 :: (T_47 ++ R)) := st_577
        have st_578 : St w w_94 (.cells b_10 (([.int .i64 x_62] : Cells) ++ ([.slice A_53 n_55 c_54] : Cells)) 57 :: .sl A_53 c_54 n_55 x_51 60 3 :: (T_47 ++ (.sl A_98 c_99 n_100 (iv .u8 r_97) 5 1 :: .cells B_87 (([.int .i64 ((gx l1 (x_64.toNat)).1)] : Cells) ++ (([.int .u64 ((gx l1 (x_64.toNat)).2.1)] : Cells) ++ (([.slice A_82 n_83 c_84] : Cells) ++ ([.bool ((gx l1 (x_64.toNat)).2.2.2)] : Cells)))) 41 :: .cells B_22 (([.int .i64 x_56] : Cells) ++ ([.slice A_57 n_58 c_59] : Cells)) 39 :: R))) := St.hide (A := [_, _]) (B := [_, _, _]) (T := T_47) (R := R) st_577
        obtain ⟨a_582_0, l_586_1, a_591, hr_579, H⟩ := H
        refine WL.call Wanted.none ent16 rfl (buffers_Cache_Pin.calls w w_94 T_47 (.sl A_98 c_99 n_100 (iv .u8 r_97) 5 1 :: .cells B_87 (([.int .i64 ((gx l1 (x_64.toNat)).1)] : Cells) ++ (([.int .u64 ((gx l1 (x_64.toNat)).2.1)] : Cells) ++ (([.slice A_82 n_83 c_84] : Cells) ++ ([.bool ((gx l1 (x_64.toNat)).2.2.2)] : Cells)))) 41 :: .cells B_22 (([.int .i64 x_56] : Cells) ++ ([.slice A_57 n_58 c_59] : Cells)) 39 :: R) x_62 l_49 ((gx l1 (x_64.toNat)).2.1) b_10 A_53 n_55 c_54 x_51  st_578 (hn_50) hx_52 a_582_0 l_586_1 a_591 hr_579) ?_
        rintro _ w_592 ⟨T_580, A_583_1, n_584_1, c_585_1, x_587_1, hs_581, hn_588_1, hx_589_1, rfl, sc_594⟩
        have st_593 : St w w_592 (.cells b_10 (([.int .i64 a_582_0] : Cells) ++ ([.slice A_583_1 n_584_1 c_585_1] : Cells)) 57 :: .sl A_583_1 c_585_1 n_584_1 x_587_1 60 3 :: .sl A_98 c_99 n_100 (iv .u8 r_97) 5 1 :: .cells B_87 (([.int .i64 ((gx l1 (x_64.toNat)).1)] : Cells) ++ (([.int .u64 ((gx l1 (x_64.toNat)).2.1)] : Cells) ++ (([.slice A_82 n_83 c_84] : Cells) ++ ([.bool ((gx l1 (x_64.toNat)).2.2.2)] : Cells)))) 41 :: .cells B_22 (([.int .i64 x_56] : Cells) ++ ([.slice A_57 n_58 c_59] : Cells)) 39 :: (T_580 ++ R)) := St.unhide (A := [_, _]) (B := [_, _, _]) (T := T_580) (R := R) sc_594
        refine ⟨_, rfl, ?_⟩
        refine WL.val Wanted.none (Runs.assign rfl) ?_
        refine WL.nil ?_
        refine QW.then_n ?_
        refine CW.seq ?_
        refine CW.region ?_
        refine WL.val Wanted.none (Runs.load_mid row39 rfl st_593 (i := 4) rfl (part_mid (pre := (([] : Cells))) (mid := (([.int .i64 x_56] : Cells) ++ ([.slice A_57 n_58 c_59] : Cells))) (post := (([] : Cells))) (by first | rfl | simp only [List.append_assoc, List.append_nil, List.nil_append, List.cons_append]) (by first | rfl | simp only [List.length_append, List.length_cons, List.length_nil, iv_length]) (by first | rfl | simp only [List.length_append, List.length_cons, List.length_nil, iv_length])) (by first | rfl | simp only [List.length_append, List.length_cons, List.length_nil, iv_length])) ?_
        refine WL.val Wanted.none (Runs.fieldAddr (off := 1) (p := 1) fld41_1 rfl rfl rfl) ?_
        refine WL.val Wanted.none (Runs.load nagg29 rfl (st_593.cell (k := 3) rfl (part_one (u := .int .u64 ((gx l1 (x_64.toNat)).2.1)) (pre := (([.int .i64 ((gx l1 (x_64.toNat)).1)] : Cells))) (post := (([.slice A_82 n_83 c_84] : Cells) ++ ([.bool ((gx l1 (x_64.toNat)).2.2.2)] : Cells))) (by first | rfl | simp only [List.append_assoc, List.append_nil, List.nil_append, List.cons_append]) (by first | rfl | simp only [List.length_append, List.length_cons, List.length_nil, iv_length])))) ?_
        have st_595 : St w w_592 ((T_580 ++ (.cells b_10 (([.int .i64 a_582_0] : Cells) ++ ([.slice A_583_1 n_584_1 c_585_1] : Cells)) 57 :: .sl A_583_1 c_585_1 n_584_1 x_587_1 60 3 :: .sl A_98 c_99 n_100 (iv .u8 r_97) 5 1 :: .cells B_87 (([.int .i64 ((gx l1 (x_64.toNat)).1)] : Cells) ++ (([.int .u64 ((gx l1 (x_64.toNat)).2.1)] : Cells) ++ (([.slice A_82 n_83 c_84] : Cells) ++ ([.bool ((gx l1 (x_64.toNat)).2.2.2)] : Cells)))) 41 :: .cells B_22 (([.int .i64 x_56] : Cells) ++ ([.slice A_57 n_58 c_59] : Cells)) 39 :: R))) := St.hide (A := []) (B := [_, _, _, _, _]) (T := T_580) (R := R) st_593
        obtain ⟨a_600_0, l_604_1, a_608, hr_596, H⟩ := H
        refine WL.call Wanted.none ent17 rfl (reliquaryref15_Hold.calls w w_592 T_580 (.cells b_10 (([.int .i64 a_582_0] : Cells) ++ ([.slice A_583_1 n_584_1 c_585_1] : Cells)) 57 :: .sl A_583_1 c_585_1 n_584_1 x_587_1 60 3 :: .sl A_98 c_99 n_100 (iv .u8 r_97) 5 1 :: .cells B_87 (([.int .i64 ((gx l1 (x_64.toNat)).1)] : Cells) ++ (([.int .u64 ((gx l1 (x_64.toNat)).2.1)] : Cells) ++ (([.slice A_82 n_83 c_84] : Cells) ++ ([.bool ((gx l1 (x_64.toNat)).2.2.2)] : Cells)))) 41 :: .cells B_22 (([.int .i64 x_56] : Cells) ++ ([.slice A_57 n_58 c_59] : Cells)) 39 :: R) x_56 l_60 ((gx l1 (x_64.toNat)).2.1) 1 A_57 n_58 c_59  st_595 (hb_61.mono (fun _ h_ => hs_581.1 _ h_) (fun _ h_ => hs_581.1 _ h_)) a_600_0 l_604_1 a_608 hr_596) ?_
        rintro _ w_609 ⟨T_597, A_601_1, n_602_1, c_603_1, hs_598, hb_606_1, rfl, sc_611⟩
        have st_610 : St w w_609 (.cells b_10 (([.int .i64 a_582_0] : Cells) ++ ([.slice A_583_1 n_584_1 c_585_1] : Cells)) 57 :: .sl A_583_1 c_585_1 n_584_1 x_587_1 60 3 :: .sl A_98 c_99 n_100 (iv .u8 r_97) 5 1 :: .cells B_87 (([.int .i64 ((gx l1 (x_64.toNat)).1)] : Cells) ++ (([.int .u64 ((gx l1 (x_64.toNat)).2.1)] : Cells) ++ (([.slice A_82 n_83 c_84] : Cells) ++ ([.bool ((gx l1 (x_64.toNat)).2.2.2)] : Cells)))) 41 :: .cells B_22 (([.int .i64 x_56] : Cells) ++ ([.slice A_57 n_58 c_59] : Cells)) 39 :: (T_597 ++ R)) := St.unhide (A := []) (B := [_, _, _, _, _]) (T := T_597) (R := R) sc_611
        refine ⟨_, rfl, ?_⟩
        refine WL.val Wanted.none (Runs.move rfl) ?_
        refine WL.val Wanted.none (Runs.extract rfl rfl) ?_
        refine WL.val Wanted.none (Runs.extract rfl rfl) ?_
        refine WL.alloc st_610 zero39 ?_
        intro B_612 w_613 st_614
        replace st_614 : St w w_613 (.cells B_612 (([.int .i64 0] : Cells) ++ ([.slice none 0 0] : Cells)) 39 :: .cells b_10 (([.int .i64 a_582_0] : Cells) ++ ([.slice A_583_1 n_584_1 c_585_1] : Cells)) 57 :: .sl A_583_1 c_585_1 n_584_1 x_587_1 60 3 :: .sl A_98 c_99 n_100 (iv .u8 r_97) 5 1 :: .cells B_87 (([.int .i64 ((gx l1 (x_64.toNat)).1)] : Cells) ++ (([.int .u64 ((gx l1 (x_64.toNat)).2.1)] : Cells) ++ (([.slice A_82 n_83 c_84] : Cells) ++ ([.bool ((gx l1 (x_64.toNat)).2.2.2)] : Cells)))) 41 :: .cells B_22 (([.int .i64 x_56] : Cells) ++ ([.slice A_57 n_58 c_59] : Cells)) 39 :: (T_597 ++ R)) := st_614
        refine WL.store_mid (i := 0) (pre := (([] : Cells))) (mid := (([.int .i64 0] : Cells) ++ ([.slice none 0 0] : Cells))) (post := (([] : Cells))) (ms := (([.int .i64 a_600_0] : Cells) ++ ([.slice A_601_1 n_602_1 c_603_1] : Cells))) st_614 rfl row39 (by first | rfl | simp only [List.append_assoc, List.append_nil, List.nil_append, List.cons_append]) (by first | rfl | simp only [List.length_append, List.length_cons, List.length_nil, iv_length]) rfl rfl (by first | rfl | simp only [List.length_append, List.length_cons, List.length_nil, iv_length]) (by first | rfl | simp only [List.length_append, List.length_cons, List.length_nil, iv_length]) (by intro u hu; simp only [List.mem_append, List.mem_singleton] at hu; rcases hu with hu | hu <;> first | exact one_iv _ _ u hu | (subst hu; rfl)) ?_
        intro w_616 st_617
        replace st_617 : St w w_616 (.cells B_612 (([.int .i64 a_600_0] : Cells) ++ ([.slice A_601_1 n_602_1 c_603_1] : Cells)) 39 :: .cells b_10 (([.int .i64 a_582_0] : Cells) ++ ([.slice A_583_1 n_584_1 c_585_1] : Cells)) 57 :: .sl A_583_1 c_585_1 n_584_1 x_587_1 60 3 :: .sl A_98 c_99 n_100 (iv .u8 r_97) 5 1 :: .cells B_87 (([.int .i64 ((gx l1 (x_64.toNat)).1)] : Cells) ++ (([.int .u64 ((gx l1 (x_64.toNat)).2.1)] : Cells) ++ (([.slice A_82 n_83 c_84] : Cells) ++ ([.bool ((gx l1 (x_64.toNat)).2.2.2)] : Cells)))) 41 :: .cells B_22 (([.int .i64 x_56] : Cells) ++ ([.slice A_57 n_58 c_59] : Cells)) 39 :: (T_597 ++ R)) := by have e_ : (([.int .i64 a_600_0] : Cells) ++ ([.slice A_601_1 n_602_1 c_603_1] : Cells)) = (([] : Cells)) ++ ((([.int .i64 a_600_0] : Cells) ++ ([.slice A_601_1 n_602_1 c_603_1] : Cells)) ++ (([] : Cells))) := (by first | rfl | simp only [List.append_assoc, List.append_nil, List.nil_append, List.cons_append]); have h_ : St w w_616 (.cells B_612 ((([] : Cells)) ++ ((([.int .i64 a_600_0] : Cells) ++ ([.slice A_601_1 n_602_1 c_603_1] : Cells)) ++ (([] : Cells)))) 39 :: .cells b_10 (([.int .i64 a_582_0] : Cells) ++ ([.slice A_583_1 n_584_1 c_585_1] : Cells)) 57 :: .sl A_583_1 c_585_1 n_584_1 x_587_1 60 3 :: .sl A_98 c_99 n_100 (iv .u8 r_97) 5 1 :: .cells B_87 (([.int .i64 ((gx l1 (x_64.toNat)).1)] : Cells) ++ (([.int .u64 ((gx l1 (x_64.toNat)).2.1)] : Cells) ++ (([.slice A_82 n_83 c_84] : Cells) ++ ([.bool ((gx l1 (x_64.toNat)).2.2.2)] : Cells)))) 41 :: .cells B_22 (([.int .i64 x_56] : Cells) ++ ([.slice A_57 n_58 c_59] : Cells)) 39 :: (T_597 ++ R)) := st_617; rw [← e_] at h_; exact h_
        refine WL.val Wanted.none (Runs.assign rfl) ?_
        refine WL.nil ?_
        refine QW.then_n ?_
        refine CW.seq ?_
        refine CW.region ?_
        refine WL.val Wanted.none (Runs.load_mid row39 rfl st_617 (i := 0) rfl (part_mid (pre := (([] : Cells))) (mid := (([.int .i64 a_600_0] : Cells) ++ ([.slice A_601_1 n_602_1 c_603_1] : Cells))) (post := (([] : Cells))) (by first | rfl | simp only [List.append_assoc, List.append_nil, List.nil_append, List.cons_append]) (by first | rfl | simp only [List.length_append, List.length_cons, List.length_nil, iv_length]) (by first | rfl | simp only [List.length_append, List.length_cons, List.length_nil, iv_length])) (by first | rfl | simp only [List.length_append, List.length_cons, List.length_nil, iv_length])) ?_
        refine WL.store_mid (i := 5) (pre := (([] : Cells))) (mid := (([.int .i64 x_56] : Cells) ++ ([.slice A_57 n_58 c_59] : Cells))) (post := (([] : Cells))) (ms := (([.int .i64 a_600_0] : Cells) ++ ([.slice A_601_1 n_602_1 c_603_1] : Cells))) st_617 rfl row39 (by first | rfl | simp only [List.append_assoc, List.append_nil, List.nil_append, List.cons_append]) (by first | rfl | simp only [List.length_append, List.length_cons, List.length_nil, iv_length]) rfl rfl (by first | rfl | simp only [List.length_append, List.length_cons, List.length_nil, iv_length]) (by first | rfl | simp only [List.length_append, List.length_cons, List.length_nil, iv_length]) (by intro u hu; simp only [List.mem_append, List.mem_singleton] at hu; rcases hu with hu | hu <;> first | exact one_iv _ _ u hu | (subst hu; rfl)) ?_
        intro w_618 st_619
        replace st_619 : St w w_618 (.cells B_612 (([.int .i64 a_600_0] : Cells) ++ ([.slice A_601_1 n_602_1 c_603_1] : Cells)) 39 :: .cells b_10 (([.int .i64 a_582_0] : Cells) ++ ([.slice A_583_1 n_584_1 c_585_1] : Cells)) 57 :: .sl A_583_1 c_585_1 n_584_1 x_587_1 60 3 :: .sl A_98 c_99 n_100 (iv .u8 r_97) 5 1 :: .cells B_87 (([.int .i64 ((gx l1 (x_64.toNat)).1)] : Cells) ++ (([.int .u64 ((gx l1 (x_64.toNat)).2.1)] : Cells) ++ (([.slice A_82 n_83 c_84] : Cells) ++ ([.bool ((gx l1 (x_64.toNat)).2.2.2)] : Cells)))) 41 :: .cells B_22 (([.int .i64 a_600_0] : Cells) ++ ([.slice A_601_1 n_602_1 c_603_1] : Cells)) 39 :: (T_597 ++ R)) := by have e_ : (([.int .i64 a_600_0] : Cells) ++ ([.slice A_601_1 n_602_1 c_603_1] : Cells)) = (([] : Cells)) ++ ((([.int .i64 a_600_0] : Cells) ++ ([.slice A_601_1 n_602_1 c_603_1] : Cells)) ++ (([] : Cells))) := (by first | rfl | simp only [List.append_assoc, List.append_nil, List.nil_append, List.cons_append]); have h_ : St w w_618 (.cells B_612 (([.int .i64 a_600_0] : Cells) ++ ([.slice A_601_1 n_602_1 c_603_1] : Cells)) 39 :: .cells b_10 (([.int .i64 a_582_0] : Cells) ++ ([.slice A_583_1 n_584_1 c_585_1] : Cells)) 57 :: .sl A_583_1 c_585_1 n_584_1 x_587_1 60 3 :: .sl A_98 c_99 n_100 (iv .u8 r_97) 5 1 :: .cells B_87 (([.int .i64 ((gx l1 (x_64.toNat)).1)] : Cells) ++ (([.int .u64 ((gx l1 (x_64.toNat)).2.1)] : Cells) ++ (([.slice A_82 n_83 c_84] : Cells) ++ ([.bool ((gx l1 (x_64.toNat)).2.2.2)] : Cells)))) 41 :: .cells B_22 ((([] : Cells)) ++ ((([.int .i64 a_600_0] : Cells) ++ ([.slice A_601_1 n_602_1 c_603_1] : Cells)) ++ (([] : Cells)))) 39 :: (T_597 ++ R)) := st_619; rw [← e_] at h_; exact h_
        refine WL.nil ?_
        refine QW.then_n ?_
        refine CW.region ?_
        refine WL.val Wanted.none (Runs.move rfl) ?_
        refine WL.val Wanted.none (Runs.move rfl) ?_
        refine WL.val Wanted.none (Runs.eqb Try.underlying4 rfl rfl rfl) ?_
        refine WL.val Wanted.none (Runs.assign rfl) ?_
        refine WL.nil ?_
        refine QW.blk_n ?_
        refine QW.then_n ?_
        refine CW.seq ?_
        refine CW.region ?_
        refine WL.val Wanted.none (Runs.move rfl) ?_
        have st_620 := (St.pickT (L := [_, _, _, _, _, _]) st_619 [1, 2, 0, 3, 4, 5] (by decide))
        replace st_620 : St w w_618 (.cells b_10 (([.int .i64 a_582_0] : Cells) ++ ([.slice A_583_1 n_584_1 c_585_1] : Cells)) 57 :: .sl A_583_1 c_585_1 n_584_1 x_587_1 60 3 :: .cells B_612 (([.int .i64 a_600_0] : Cells) ++ ([.slice A_601_1 n_602_1 c_603_1] : Cells)) 39 :: .sl A_98 c_99 n_100 (iv .u8 r_97) 5 1 :: .cells B_87 (([.int .i64 ((gx l1 (x_64.toNat)).1)] : Cells) ++ (([.int .u64 ((gx l1 (x_64.toNat)).2.1)] : Cells) ++ (([.slice A_82 n_83 c_84] : Cells) ++ ([.bool ((gx l1 (x_64.toNat)).2.2.2)] : Cells)))) 41 :: .cells B_22 (([.int .i64 a_600_0] : Cells) ++ ([.slice A_601_1 n_602_1 c_603_1] : Cells)) 39 :: (T_597 ++ R)) := st_620
        have st_621 : St w w_618 (.cells b_10 (([.int .i64 a_582_0] : Cells) ++ ([.slice A_583_1 n_584_1 c_585_1] : Cells)) 57 :: .sl A_583_1 c_585_1 n_584_1 x_587_1 60 3 :: (T_597 ++ (.cells B_612 (([.int .i64 a_600_0] : Cells) ++ ([.slice A_601_1 n_602_1 c_603_1] : Cells)) 39 :: .sl A_98 c_99 n_100 (iv .u8 r_97) 5 1 :: .cells B_87 (([.int .i64 ((gx l1 (x_64.toNat)).1)] : Cells) ++ (([.int .u64 ((gx l1 (x_64.toNat)).2.1)] : Cells) ++ (([.slice A_82 n_83 c_84] : Cells) ++ ([.bool ((gx l1 (x_64.toNat)).2.2.2)] : Cells)))) 41 :: .cells B_22 (([.int .i64 a_600_0] : Cells) ++ ([.slice A_601_1 n_602_1 c_603_1] : Cells)) 39 :: R))) := St.hide (A := [_, _]) (B := [_, _, _, _]) (T := T_597) (R := R) st_620
        obtain ⟨a_625_0, l_629_1, l_637, hr_622, H⟩ := H
        refine WL.call Wanted.none ent13 rfl (buffers_Cache_Blocks.calls w w_618 T_597 (.cells B_612 (([.int .i64 a_600_0] : Cells) ++ ([.slice A_601_1 n_602_1 c_603_1] : Cells)) 39 :: .sl A_98 c_99 n_100 (iv .u8 r_97) 5 1 :: .cells B_87 (([.int .i64 ((gx l1 (x_64.toNat)).1)] : Cells) ++ (([.int .u64 ((gx l1 (x_64.toNat)).2.1)] : Cells) ++ (([.slice A_82 n_83 c_84] : Cells) ++ ([.bool ((gx l1 (x_64.toNat)).2.2.2)] : Cells)))) 41 :: .cells B_22 (([.int .i64 a_600_0] : Cells) ++ ([.slice A_601_1 n_602_1 c_603_1] : Cells)) 39 :: R) a_582_0 l_586_1 b_10 A_583_1 n_584_1 c_585_1 x_587_1  st_621 (hn_588_1) (hx_589_1.mono (fun _ h_ => hs_598.1 _ h_)) a_625_0 l_629_1 l_637 hr_622) ?_
        rintro _ w_640 ⟨T_623, A_626_1, n_627_1, c_628_1, x_630_1, A_634, n_635, c_636, hs_624, hn_631_1, hx_632_1, hn_639, rfl, sc_642⟩
        have st_641 : St w w_640 (.cells b_10 (([.int .i64 a_625_0] : Cells) ++ ([.slice A_626_1 n_627_1 c_628_1] : Cells)) 57 :: .sl A_626_1 c_628_1 n_627_1 x_630_1 60 3 :: .sl A_634 c_636 n_635 (iv .u64 l_637) 29 1 :: .cells B_612 (([.int .i64 a_600_0] : Cells) ++ ([.slice A_601_1 n_602_1 c_603_1] : Cells)) 39 :: .sl A_98 c_99 n_100 (iv .u8 r_97) 5 1 :: .cells B_87 (([.int .i64 ((gx l1 (x_64.toNat)).1)] : Cells) ++ (([.int .u64 ((gx l1 (x_64.toNat)).2.1)] : Cells) ++ (([.slice A_82 n_83 c_84] : Cells) ++ ([.bool ((gx l1 (x_64.toNat)).2.2.2)] : Cells)))) 41 :: .cells B_22 (([.int .i64 a_600_0] : Cells) ++ ([.slice A_601_1 n_602_1 c_603_1] : Cells)) 39 :: (T_623 ++ R)) := St.unhide (A := [_, _, _]) (B := [_, _, _, _]) (T := T_623) (R := R) sc_642
        refine ⟨_, rfl, ?_⟩
        refine WL.val Wanted.none (Runs.assign rfl) ?_
        refine WL.nil ?_
        refine QW.then_n ?_
        refine CW.seq ?_
        refine CW.seq ?_
        refine CW.region ?_
        refine WL.val Wanted.none (Runs.move rfl) ?_
        refine WL.val Wanted.none (Runs.not rfl rfl) ?_
        refine WL.val Wanted.none (Runs.move rfl) ?_
        obtain ⟨c_643, H⟩ := H
        have h_644 : (!(a_591 == a_608)) = false := (not_f (beq_iff_eq.mpr (Decidable.not_not.mp c_643)))
        refine WL.on ?_ ?_; exact Wanted.guard (dj := 169) (by rfl) (evb (by rfl) h_644) (by rfl)
        refine WL.val Wanted.none (Runs.move rfl) ?_
        refine WL.on ?_ ?_; exact Wanted.guard (dj := 169) (by rfl) (evb (by rfl) h_644) (by rfl)
        refine WL.val Wanted.none (Runs.len_sl Try.underlying33 rfl (by rw [hn_639])) ?_
        refine WL.on ?_ ?_; exact Wanted.guard (dj := 169) (by rfl) (evb (by rfl) h_644) (by rfl)
        refine WL.val Wanted.none (Runs.fieldAddr (off := 1) (p := 1) fld39_1 rfl rfl rfl) ?_
        refine WL.on ?_ ?_; exact Wanted.guard (dj := 169) (by rfl) (evb (by rfl) h_644) (by rfl)
        refine WL.val Wanted.none (Runs.load nagg37 rfl (st_641.cell (k := 6) rfl (part_one (u := .slice A_601_1 n_602_1 c_603_1) (pre := (([.int .i64 a_600_0] : Cells))) (post := (([] : Cells))) (by first | rfl | simp only [List.append_assoc, List.append_nil, List.nil_append, List.cons_append]) (by first | rfl | simp only [List.length_append, List.length_cons, List.length_nil, iv_length])))) ?_
        refine WL.on ?_ ?_; exact Wanted.guard (dj := 169) (by rfl) (evb (by rfl) h_644) (by rfl)
        refine WL.val Wanted.none (Runs.len_sl Try.underlying37 rfl (by rw [hb_606_1.1])) ?_
        refine WL.on ?_ ?_; exact Wanted.guard (dj := 169) (by rfl) (evb (by rfl) h_644) (by rfl)
        refine WL.val Wanted.none (Runs.neq rfl rfl rfl) ?_
        refine WL.val Wanted.none (Runs.pick_f (evb rfl h_644) rfl) ?_
        refine WL.nil ?_
        refine QW.then_n ?_
        obtain ⟨c_645, H⟩ := H
        have h_646 : ((l_637.length : Int) != (l_604_1.length : Int)) = false := (bne_eq_false_iff_eq.mpr (Decidable.not_not.mp c_645))
        refine CW.cf rfl h_646 ?_
        refine CW.skip ?_
        refine QW.then_n ?_
        refine CW.seq ?_
        refine CW.region ?_
        refine WL.val Wanted.none (Runs.assign rfl) ?_
        refine WL.nil ?_
        refine QW.then_n ?_
        refine CW.block ?_
        obtain ⟨k_647, H⟩ := H
        refine CW.sub [(1, .slice A1 n1 c1), (4, .bool b_63), (6, .pointer (some ⟨b_10, 0, none⟩)), (7, .pointer (some ⟨B_22, 0, none⟩)), (8, .int .i64 x_64), (38, .int .i64 x_64), (39, .slice A1 n1 c1), (40, .int .i64 (l1.length : Int)), (41, .bool (decide (x_64 < (l1.length : Int)))), (42, .bool (decide (x_64 < (l1.length : Int)))), (43, .int .i64 x_64), (44, .bool (decide (x_64 < 60))), (45, .bool (decide (x_64 < 60))), (48, .slice A1 n1 c1), (49, .int .i64 x_64), (50, .pointer (some (a_77.add ((x_64.toNat) * 4)))), (51, .agg (([.int .i64 ((gx l1 (x_64.toNat)).1)] : Cells) ++ (([.int .u64 ((gx l1 (x_64.toNat)).2.1)] : Cells) ++ (([.slice A_82 n_83 c_84] : Cells) ++ ([.bool ((gx l1 (x_64.toNat)).2.2.2)] : Cells)))).toArray), (9, .pointer (some ⟨B_87, 0, none⟩)), (52, .pointer (some ⟨B_87, 2, none⟩)), (53, .slice A_82 n_83 c_84), (54, .pointer (some ⟨B_87, 3, none⟩)), (55, .bool ((gx l1 (x_64.toNat)).2.2.2)), (56, .slice A_98 n_100 c_99), (10, .slice A_98 n_100 c_99), (11, .bool (a_591 == a_608)), (57, .pointer (some ⟨B_87, 0, none⟩)), (58, .int .i64 ((gx l1 (x_64.toNat)).1)), (59, .int .i64 (bits .and .i64 ((gx l1 (x_64.toNat)).1) 7)), (66, .bool ((bits .and .i64 ((gx l1 (x_64.toNat)).1) 7) == 0)), (65, .bool ((bits .and .i64 ((gx l1 (x_64.toNat)).1) 7) == 1)), (67, .bool ((bits .and .i64 ((gx l1 (x_64.toNat)).1) 7) == 1)), (87, .bool ((bits .and .i64 ((gx l1 (x_64.toNat)).1) 7) == 2)), (86, .bool ((bits .and .i64 ((gx l1 (x_64.toNat)).1) 7) == 3)), (88, .bool ((bits .and .i64 ((gx l1 (x_64.toNat)).1) 7) == 3)), (115, .bool ((bits .and .i64 ((gx l1 (x_64.toNat)).1) 7) == 4)), (114, .bool ((bits .and .i64 ((gx l1 (x_64.toNat)).1) 7) == 4)), (116, .pointer (some ⟨b_10, 0, none⟩)), (117, .pointer (some ⟨B_87, 1, none⟩)), (118, .int .u64 ((gx l1 (x_64.toNat)).2.1)), (119, .bool a_591), (20, .bool a_591), (121, .agg (([.int .i64 x_56] : Cells) ++ ([.slice A_57 n_58 c_59] : Cells)).toArray), (122, .pointer (some ⟨B_87, 1, none⟩)), (123, .int .u64 ((gx l1 (x_64.toNat)).2.1)), (124, .tuple #[.agg (([.int .i64 a_600_0] : Cells) ++ ([.slice A_601_1 n_602_1 c_603_1] : Cells)).toArray, .bool a_608]), (120, .tuple #[.agg (([.int .i64 a_600_0] : Cells) ++ ([.slice A_601_1 n_602_1 c_603_1] : Cells)).toArray, .bool a_608]), (125, .agg (([.int .i64 a_600_0] : Cells) ++ ([.slice A_601_1 n_602_1 c_603_1] : Cells)).toArray), (126, .bool a_608), (21, .pointer (some ⟨B_612, 0, none⟩)), (22, .bool a_608), (127, .agg (([.int .i64 a_600_0] : Cells) ++ ([.slice A_601_1 n_602_1 c_603_1] : Cells)).toArray), (128, .bool a_591), (129, .bool a_608), (130, .bool (a_591 == a_608)), (165, .pointer (some ⟨b_10, 0, none⟩)), (166, .slice A_634 n_635 c_636), (29, .slice A_634 n_635 c_636), (167, .bool (a_591 == a_608)), (168, .bool (!(a_591 == a_608))), (169, .bool (!(a_591 == a_608))), (170, .slice A_634 n_635 c_636), (171, .int .i64 (l_637.length : Int)), (172, .pointer (some ⟨B_22, 1, none⟩)), (173, .slice A_601_1 n_602_1 c_603_1), (174, .int .i64 (l_604_1.length : Int)), (175, .bool ((l_637.length : Int) != (l_604_1.length : Int))), (176, .bool ((l_637.length : Int) != (l_604_1.length : Int))), (30, .int .i64 0)] (by repeat' constructor) ?_
        refine CW.loop (fun kL6 l_ w_ => ∃ (T_648 : Pool) (b_650 : Bool) (x_651 : Int), l_ = [(1, .slice A1 n1 c1), (4, .bool b_650), (6, .pointer (some ⟨b_10, 0, none⟩)), (7, .pointer (some ⟨B_22, 0, none⟩)), (8, .int .i64 x_64), (38, .int .i64 x_64), (39, .slice A1 n1 c1), (40, .int .i64 (l1.length : Int)), (41, .bool (decide (x_64 < (l1.length : Int)))), (42, .bool (decide (x_64 < (l1.length : Int)))), (43, .int .i64 x_64), (44, .bool (decide (x_64 < 60))), (45, .bool (decide (x_64 < 60))), (48, .slice A1 n1 c1), (49, .int .i64 x_64), (50, .pointer (some (a_77.add ((x_64.toNat) * 4)))), (51, .agg (([.int .i64 ((gx l1 (x_64.toNat)).1)] : Cells) ++ (([.int .u64 ((gx l1 (x_64.toNat)).2.1)] : Cells) ++ (([.slice A_82 n_83 c_84] : Cells) ++ ([.bool ((gx l1 (x_64.toNat)).2.2.2)] : Cells)))).toArray), (9, .pointer (some ⟨B_87, 0, none⟩)), (52, .pointer (some ⟨B_87, 2, none⟩)), (53, .slice A_82 n_83 c_84), (54, .pointer (some ⟨B_87, 3, none⟩)), (55, .bool ((gx l1 (x_64.toNat)).2.2.2)), (56, .slice A_98 n_100 c_99), (10, .slice A_98 n_100 c_99), (11, .bool (a_591 == a_608)), (57, .pointer (some ⟨B_87, 0, none⟩)), (58, .int .i64 ((gx l1 (x_64.toNat)).1)), (59, .int .i64 (bits .and .i64 ((gx l1 (x_64.toNat)).1) 7)), (66, .bool ((bits .and .i64 ((gx l1 (x_64.toNat)).1) 7) == 0)), (65, .bool ((bits .and .i64 ((gx l1 (x_64.toNat)).1) 7) == 1)), (67, .bool ((bits .and .i64 ((gx l1 (x_64.toNat)).1) 7) == 1)), (87, .bool ((bits .and .i64 ((gx l1 (x_64.toNat)).1) 7) == 2)), (86, .bool ((bits .and .i64 ((gx l1 (x_64.toNat)).1) 7) == 3)), (88, .bool ((bits .and .i64 ((gx l1 (x_64.toNat)).1) 7) == 3)), (115, .bool ((bits .and .i64 ((gx l1 (x_64.toNat)).1) 7) == 4)), (114, .bool ((bits .and .i64 ((gx l1 (x_64.toNat)).1) 7) == 4)), (116, .pointer (some ⟨b_10, 0, none⟩)), (117, .pointer (some ⟨B_87, 1, none⟩)), (118, .int .u64 ((gx l1 (x_64.toNat)).2.1)), (119, .bool a_591), (20, .bool a_591), (121, .agg (([.int .i64 x_56] : Cells) ++ ([.slice A_57 n_58 c_59] : Cells)).toArray), (122, .pointer (some ⟨B_87, 1, none⟩)), (123, .int .u64 ((gx l1 (x_64.toNat)).2.1)), (124, .tuple #[.agg (([.int .i64 a_600_0] : Cells) ++ ([.slice A_601_1 n_602_1 c_603_1] : Cells)).toArray, .bool a_608]), (120, .tuple #[.agg (([.int .i64 a_600_0] : Cells) ++ ([.slice A_601_1 n_602_1 c_603_1] : Cells)).toArray, .bool a_608]), (125, .agg (([.int .i64 a_600_0] : Cells) ++ ([.slice A_601_1 n_602_1 c_603_1] : Cells)).toArray), (126, .bool a_608), (21, .pointer (some ⟨B_612, 0, none⟩)), (22, .bool a_608), (127, .agg (([.int .i64 a_600_0] : Cells) ++ ([.slice A_601_1 n_602_1 c_603_1] : Cells)).toArray), (128, .bool a_591), (129, .bool a_608), (130, .bool (a_591 == a_608)), (165, .pointer (some ⟨b_10, 0, none⟩)), (166, .slice A_634 n_635 c_636), (29, .slice A_634 n_635 c_636), (167, .bool (a_591 == a_608)), (168, .bool (!(a_591 == a_608))), (169, .bool (!(a_591 == a_608))), (170, .slice A_634 n_635 c_636), (171, .int .i64 (l_637.length : Int)), (172, .pointer (some ⟨B_22, 1, none⟩)), (173, .slice A_601_1 n_602_1 c_603_1), (174, .int .i64 (l_604_1.length : Int)), (175, .bool ((l_637.length : Int) != (l_604_1.length : Int))), (176, .bool ((l_637.length : Int) != (l_604_1.length : Int))), (30, .int .i64 x_651)] ∧ reliquarylaw15_BuffersPlays.L6 x_64 a_600_0 l_604_1 a_625_0 l_629_1 l_637 (reliquarylaw15_BuffersPlays.L1 l1 kL1) kL6 b_650 x_651 ∧ (Pl T_623 T_648) ∧ St w w_ (.cells b_10 (([.int .i64 a_625_0] : Cells) ++ ([.slice A_626_1 n_627_1 c_628_1] : Cells)) 57 :: .sl A_626_1 c_628_1 n_627_1 x_630_1 60 3 :: .sl A_634 c_636 n_635 (iv .u64 l_637) 29 1 :: .cells B_612 (([.int .i64 a_600_0] : Cells) ++ ([.slice A_601_1 n_602_1 c_603_1] : Cells)) 39 :: .sl A_98 c_99 n_100 (iv .u8 r_97) 5 1 :: .cells B_87 (([.int .i64 ((gx l1 (x_64.toNat)).1)] : Cells) ++ (([.int .u64 ((gx l1 (x_64.toNat)).2.1)] : Cells) ++ (([.slice A_82 n_83 c_84] : Cells) ++ ([.bool ((gx l1 (x_64.toNat)).2.2.2)] : Cells)))) 41 :: .cells B_22 (([.int .i64 a_600_0] : Cells) ++ ([.slice A_601_1 n_602_1 c_603_1] : Cells)) 39 :: (T_648 ++ R))) (k := k_647) ⟨T_623, b_63, 0, rfl, H, Pl.refl, st_641⟩ (fun _ _ h => by obtain ⟨_, _, _, _, h, _⟩ := h; exact h.elim) ?_
        rintro kL6 l_654 w_652 ⟨T_648, b_650, x_651, rfl, H, hs_649, st_653⟩
        refine CW.seq ?_
        refine CW.seq ?_
        refine CW.region ?_
        refine WL.val Wanted.none (Runs.move rfl) ?_
        refine WL.val Wanted.none (Runs.move rfl) ?_
        refine WL.val Wanted.none (Runs.len_sl Try.underlying33 rfl (by rw [hn_639])) ?_
        refine WL.val Wanted.none (Runs.lss rfl rfl rfl) ?_
        refine WL.nil ?_
        refine QW.then_n ?_
        rcases H with ⟨c_655, H⟩ | ⟨c_655, H⟩
        ·have h_656 : (decide (x_651 < (l_637.length : Int))) = true := (decide_eq_true c_655)
         refine CW.ct rfl h_656 ?_
         refine CW.skip ?_
         refine QW.then_n ?_
         refine CW.seq ?_
         refine CW.block ?_
         refine CW.seq ?_
         refine CW.region_qa wide (by kernel_rfl) st_653 ?_
         refine HL.val Wanted.none (fun wq sq => (Runs.move rfl)) ?_
         refine HL.val Wanted.none (fun wq sq => (Runs.move rfl)) ?_
         obtain ⟨⟨p_657, q_658⟩, H⟩ := H
         obtain ⟨a_659, e_660⟩ := (st_653.src_sl (k := 2) rfl).addr_iv (x_651.toNat) (by omega)
         refine HL.val Wanted.none (fun wq sq => (Runs.indexAddr Try.underlying33 cells29 (by decide) rfl e_660 rfl p_657 (by rw [hn_639]; exact q_658) (o := (x_651).toNat) (by first | rfl | omega))) ?_
         refine HL.val Wanted.none (fun wq sq => (Runs.load nagg29 rfl ((sq.src_sl (k := 2) rfl).cell_iv e_660 (by omega)))) ?_
         refine HL.val Wanted.none (fun wq sq => (Runs.fieldAddr (off := 1) (p := 1) fld39_1 rfl rfl rfl)) ?_
         refine HL.val Wanted.none (fun wq sq => (Runs.load nagg37 rfl (sq.cell (k := 6) rfl (part_one (u := .slice A_601_1 n_602_1 c_603_1) (pre := (([.int .i64 a_600_0] : Cells))) (post := (([] : Cells))) (by first | rfl | simp only [List.append_assoc, List.append_nil, List.nil_append, List.cons_append]) (by first | rfl | simp only [List.length_append, List.length_cons, List.length_nil, iv_length]))))) ?_
         refine HL.val Wanted.none (fun wq sq => (Runs.move rfl)) ?_
         obtain ⟨⟨p_661, q_662⟩, H⟩ := H
         obtain ⟨x_663, hs_664, hr_665⟩ := hb_606_1.2.2
         obtain ⟨a_666, e_667, ms_668, hc_669, hm_670⟩ := el_get (i := (x_651).toNat) ((hs_664.at st_653 (mem_T (A := [_, _, _, _, _, _, _]) (fun _ h_ => hs_649.1 _ (hs_624.1 _ h_))))) (hr_665.mono (fun _ h_ => hs_649.1 _ (hs_624.1 _ h_))) (fz51 w) (by decide) (by omega)
         obtain em_671 := inv51 hm_670
         replace em_671 : ms_668 = ([.int .u64 ((gx l_604_1 (x_651.toNat)).1)] : Cells) ++ (([.string ((gx l_604_1 (x_651.toNat)).2.1)] : Cells) ++ ([.int .i64 ((gx l_604_1 (x_651.toNat)).2.2)] : Cells)) := em_671
         subst em_671
         refine HL.val Wanted.none (fun wq sq => (Runs.indexAddr Try.underlying37 cells51 (by decide) rfl e_667 rfl p_661 (by rw [show n_602_1 = l_604_1.length from hb_606_1.1]; exact q_662) (o := (x_651.toNat) * 3) (by first | rfl | omega))) ?_
         refine HL.val Wanted.none (fun wq sq => (Runs.fieldAddrB (off := 0) fld51_0 rfl rfl rfl)) ?_
         refine HL.val Wanted.none (fun wq sq => (Runs.load nagg29 rfl (Src.cellAt (j := 0) (Src.cut ((hs_664.at sq (mem_T (A := [_, _, _, _, _, _, _]) (fun _ h_ => hs_649.1 _ (hs_624.1 _ h_))))) e_667 hc_669) rfl))) ?_
         refine HL.val Wanted.none (fun wq sq => (Runs.neq rfl rfl rfl)) ?_
         refine HL.nil (fun w_672 st_673 => ?_)
         refine WL.nil ?_
         refine QW.then_n ?_
         obtain ⟨c_674, H⟩ := H
         have h_675 : ((gn l_637 (x_651.toNat)) != ((gx l_604_1 (x_651.toNat)).1)) = false := (bne_eq_false_iff_eq.mpr (Decidable.not_not.mp c_674))
         refine CW.cf rfl h_675 ?_
         refine CW.skip ?_
         refine QW.blk_n ?_
         refine QW.then_n ?_
         refine CW.region ?_
         refine WL.val Wanted.none (Runs.move rfl) ?_
         refine WL.val Wanted.none (Runs.add rfl rfl rfl) ?_
         refine WL.val Wanted.none (Runs.assign rfl) ?_
         refine WL.nil ?_
         exact QW.at _ (by repeat' constructor) ⟨T_648, b_650, IntKind.i64.wrap (x_651 + 1), rfl, H, hs_649, st_673⟩
        ·have h_656 : (decide (x_651 < (l_637.length : Int))) = false := (decide_eq_false c_655)
         refine CW.cf rfl h_656 ?_
         refine CW.exit ?_
         refine QW.then_x ?_
         refine QW.then_x ?_
         refine QW.blk_x ?_
         refine QW.blk_n ?_
         refine QW.then_n ?_
         refine CW.region ?_
         refine WL.val Wanted.none (Runs.move rfl) ?_
         refine WL.val Wanted.none (Runs.add rfl rfl rfl) ?_
         refine WL.val Wanted.none (Runs.assign rfl) ?_
         refine WL.nil ?_
         have st_653' := (St.pickT (L := [_, _, _, _, _, _, _]) st_653 [6, 0, 1] (by decide))
         exact QW.at _ (by repeat' constructor) ⟨T_648, A_626_1, c_628_1, n_627_1, x_630_1, l_629_1, a_600_0, A_601_1, n_602_1, c_603_1, l_604_1, a_625_0, b_650, IntKind.i64.wrap (x_64 + 1), rfl, H, ((((hs_48.trans hs_581).trans hs_598).trans hs_624).trans hs_649), hn_631_1, (hx_632_1.mono (fun _ h_ => hs_649.1 _ h_)), (hb_606_1.mono (fun _ h_ => hs_649.1 _ (hs_624.1 _ h_)) (fun _ h_ => hs_649.1 _ (hs_624.1 _ h_))), st_653'⟩
       ·have h_576 : ((bits .and .i64 ((gx l1 (x_64.toNat)).1) 7) == 4) = false := (beq_eq_false_iff_ne.mpr c_575)
        refine CW.cf rfl h_576 ?_
        refine CW.seq ?_
        refine CW.region ?_
        refine WL.val Wanted.none (Runs.eql rfl rfl rfl) ?_
        refine WL.val Wanted.none (Runs.assign rfl) ?_
        refine WL.nil ?_
        refine QW.then_n ?_
        rcases H with ⟨c_676, H⟩ | ⟨c_676, H⟩
        ·have h_677 : ((bits .and .i64 ((gx l1 (x_64.toNat)).1) 7) == 5) = true := (beq_iff_eq.mpr c_676)
         refine CW.ct rfl h_677 ?_
         refine CW.seq ?_
         refine CW.region ?_
         refine WL.val Wanted.none (Runs.move rfl) ?_
         refine WL.val Wanted.none (Runs.fieldAddr (off := 1) (p := 1) fld41_1 rfl rfl rfl) ?_
         refine WL.val Wanted.none (Runs.load nagg29 rfl (st_95.cell (k := 1) rfl (part_one (u := .int .u64 ((gx l1 (x_64.toNat)).2.1)) (pre := (([.int .i64 ((gx l1 (x_64.toNat)).1)] : Cells))) (post := (([.slice A_82 n_83 c_84] : Cells) ++ ([.bool ((gx l1 (x_64.toNat)).2.2.2)] : Cells))) (by first | rfl | simp only [List.append_assoc, List.append_nil, List.nil_append, List.cons_append]) (by first | rfl | simp only [List.length_append, List.length_cons, List.length_nil, iv_length])))) ?_
         have st_678 := (St.pickT (L := [_, _, _, _, _]) st_95 [3, 4, 0, 1, 2] (by decide))
         replace st_678 : St w w_94 (.cells b_10 (([.int .i64 x_62] : Cells) ++ ([.slice A_53 n_55 c_54] : Cells)) 57 :: .sl A_53 c_54 n_55 x_51 60 3 :: .sl A_98 c_99 n_100 (iv .u8 r_97) 5 1 :: .cells B_87 (([.int .i64 ((gx l1 (x_64.toNat)).1)] : Cells) ++ (([.int .u64 ((gx l1 (x_64.toNat)).2.1)] : Cells) ++ (([.slice A_82 n_83 c_84] : Cells) ++ ([.bool ((gx l1 (x_64.toNat)).2.2.2)] : Cells)))) 41 :: .cells B_22 (([.int .i64 x_56] : Cells) ++ ([.slice A_57 n_58 c_59] : Cells)) 39 :: (T_47 ++ R)) := st_678
         have st_679 : St w w_94 (.cells b_10 (([.int .i64 x_62] : Cells) ++ ([.slice A_53 n_55 c_54] : Cells)) 57 :: .sl A_53 c_54 n_55 x_51 60 3 :: (T_47 ++ (.sl A_98 c_99 n_100 (iv .u8 r_97) 5 1 :: .cells B_87 (([.int .i64 ((gx l1 (x_64.toNat)).1)] : Cells) ++ (([.int .u64 ((gx l1 (x_64.toNat)).2.1)] : Cells) ++ (([.slice A_82 n_83 c_84] : Cells) ++ ([.bool ((gx l1 (x_64.toNat)).2.2.2)] : Cells)))) 41 :: .cells B_22 (([.int .i64 x_56] : Cells) ++ ([.slice A_57 n_58 c_59] : Cells)) 39 :: R))) := St.hide (A := [_, _]) (B := [_, _, _]) (T := T_47) (R := R) st_678
         obtain ⟨a_683_0, l_687_1, a_692, hr_680, H⟩ := H
         refine WL.call Wanted.none ent18 rfl (buffers_Cache_Unpin.calls w w_94 T_47 (.sl A_98 c_99 n_100 (iv .u8 r_97) 5 1 :: .cells B_87 (([.int .i64 ((gx l1 (x_64.toNat)).1)] : Cells) ++ (([.int .u64 ((gx l1 (x_64.toNat)).2.1)] : Cells) ++ (([.slice A_82 n_83 c_84] : Cells) ++ ([.bool ((gx l1 (x_64.toNat)).2.2.2)] : Cells)))) 41 :: .cells B_22 (([.int .i64 x_56] : Cells) ++ ([.slice A_57 n_58 c_59] : Cells)) 39 :: R) x_62 l_49 ((gx l1 (x_64.toNat)).2.1) b_10 A_53 n_55 c_54 x_51  st_679 (hn_50) hx_52 a_683_0 l_687_1 a_692 hr_680) ?_
         rintro _ w_693 ⟨T_681, A_684_1, n_685_1, c_686_1, x_688_1, hs_682, hn_689_1, hx_690_1, rfl, sc_695⟩
         have st_694 : St w w_693 (.cells b_10 (([.int .i64 a_683_0] : Cells) ++ ([.slice A_684_1 n_685_1 c_686_1] : Cells)) 57 :: .sl A_684_1 c_686_1 n_685_1 x_688_1 60 3 :: .sl A_98 c_99 n_100 (iv .u8 r_97) 5 1 :: .cells B_87 (([.int .i64 ((gx l1 (x_64.toNat)).1)] : Cells) ++ (([.int .u64 ((gx l1 (x_64.toNat)).2.1)] : Cells) ++ (([.slice A_82 n_83 c_84] : Cells) ++ ([.bool ((gx l1 (x_64.toNat)).2.2.2)] : Cells)))) 41 :: .cells B_22 (([.int .i64 x_56] : Cells) ++ ([.slice A_57 n_58 c_59] : Cells)) 39 :: (T_681 ++ R)) := St.unhide (A := [_, _]) (B := [_, _, _]) (T := T_681) (R := R) sc_695
         refine ⟨_, rfl, ?_⟩
         refine WL.val Wanted.none (Runs.assign rfl) ?_
         refine WL.nil ?_
         refine QW.then_n ?_
         refine CW.seq ?_
         refine CW.region ?_
         refine WL.val Wanted.none (Runs.load_mid row39 rfl st_694 (i := 4) rfl (part_mid (pre := (([] : Cells))) (mid := (([.int .i64 x_56] : Cells) ++ ([.slice A_57 n_58 c_59] : Cells))) (post := (([] : Cells))) (by first | rfl | simp only [List.append_assoc, List.append_nil, List.nil_append, List.cons_append]) (by first | rfl | simp only [List.length_append, List.length_cons, List.length_nil, iv_length]) (by first | rfl | simp only [List.length_append, List.length_cons, List.length_nil, iv_length])) (by first | rfl | simp only [List.length_append, List.length_cons, List.length_nil, iv_length])) ?_
         refine WL.val Wanted.none (Runs.fieldAddr (off := 1) (p := 1) fld41_1 rfl rfl rfl) ?_
         refine WL.val Wanted.none (Runs.load nagg29 rfl (st_694.cell (k := 3) rfl (part_one (u := .int .u64 ((gx l1 (x_64.toNat)).2.1)) (pre := (([.int .i64 ((gx l1 (x_64.toNat)).1)] : Cells))) (post := (([.slice A_82 n_83 c_84] : Cells) ++ ([.bool ((gx l1 (x_64.toNat)).2.2.2)] : Cells))) (by first | rfl | simp only [List.append_assoc, List.append_nil, List.nil_append, List.cons_append]) (by first | rfl | simp only [List.length_append, List.length_cons, List.length_nil, iv_length])))) ?_
         have st_696 : St w w_693 ((T_681 ++ (.cells b_10 (([.int .i64 a_683_0] : Cells) ++ ([.slice A_684_1 n_685_1 c_686_1] : Cells)) 57 :: .sl A_684_1 c_686_1 n_685_1 x_688_1 60 3 :: .sl A_98 c_99 n_100 (iv .u8 r_97) 5 1 :: .cells B_87 (([.int .i64 ((gx l1 (x_64.toNat)).1)] : Cells) ++ (([.int .u64 ((gx l1 (x_64.toNat)).2.1)] : Cells) ++ (([.slice A_82 n_83 c_84] : Cells) ++ ([.bool ((gx l1 (x_64.toNat)).2.2.2)] : Cells)))) 41 :: .cells B_22 (([.int .i64 x_56] : Cells) ++ ([.slice A_57 n_58 c_59] : Cells)) 39 :: R))) := St.hide (A := []) (B := [_, _, _, _, _]) (T := T_681) (R := R) st_694
         obtain ⟨a_701_0, l_705_1, a_709, hr_697, H⟩ := H
         refine WL.call Wanted.none ent17 rfl (reliquaryref15_Hold.calls w w_693 T_681 (.cells b_10 (([.int .i64 a_683_0] : Cells) ++ ([.slice A_684_1 n_685_1 c_686_1] : Cells)) 57 :: .sl A_684_1 c_686_1 n_685_1 x_688_1 60 3 :: .sl A_98 c_99 n_100 (iv .u8 r_97) 5 1 :: .cells B_87 (([.int .i64 ((gx l1 (x_64.toNat)).1)] : Cells) ++ (([.int .u64 ((gx l1 (x_64.toNat)).2.1)] : Cells) ++ (([.slice A_82 n_83 c_84] : Cells) ++ ([.bool ((gx l1 (x_64.toNat)).2.2.2)] : Cells)))) 41 :: .cells B_22 (([.int .i64 x_56] : Cells) ++ ([.slice A_57 n_58 c_59] : Cells)) 39 :: R) x_56 l_60 ((gx l1 (x_64.toNat)).2.1) (-1) A_57 n_58 c_59  st_696 (hb_61.mono (fun _ h_ => hs_682.1 _ h_) (fun _ h_ => hs_682.1 _ h_)) a_701_0 l_705_1 a_709 hr_697) ?_
         rintro _ w_710 ⟨T_698, A_702_1, n_703_1, c_704_1, hs_699, hb_707_1, rfl, sc_712⟩
         have st_711 : St w w_710 (.cells b_10 (([.int .i64 a_683_0] : Cells) ++ ([.slice A_684_1 n_685_1 c_686_1] : Cells)) 57 :: .sl A_684_1 c_686_1 n_685_1 x_688_1 60 3 :: .sl A_98 c_99 n_100 (iv .u8 r_97) 5 1 :: .cells B_87 (([.int .i64 ((gx l1 (x_64.toNat)).1)] : Cells) ++ (([.int .u64 ((gx l1 (x_64.toNat)).2.1)] : Cells) ++ (([.slice A_82 n_83 c_84] : Cells) ++ ([.bool ((gx l1 (x_64.toNat)).2.2.2)] : Cells)))) 41 :: .cells B_22 (([.int .i64 x_56] : Cells) ++ ([.slice A_57 n_58 c_59] : Cells)) 39 :: (T_698 ++ R)) := St.unhide (A := []) (B := [_, _, _, _, _]) (T := T_698) (R := R) sc_712
         refine ⟨_, rfl, ?_⟩
         refine WL.val Wanted.none (Runs.move rfl) ?_
         refine WL.val Wanted.none (Runs.extract rfl rfl) ?_
         refine WL.val Wanted.none (Runs.extract rfl rfl) ?_
         refine WL.alloc st_711 zero39 ?_
         intro B_713 w_714 st_715
         replace st_715 : St w w_714 (.cells B_713 (([.int .i64 0] : Cells) ++ ([.slice none 0 0] : Cells)) 39 :: .cells b_10 (([.int .i64 a_683_0] : Cells) ++ ([.slice A_684_1 n_685_1 c_686_1] : Cells)) 57 :: .sl A_684_1 c_686_1 n_685_1 x_688_1 60 3 :: .sl A_98 c_99 n_100 (iv .u8 r_97) 5 1 :: .cells B_87 (([.int .i64 ((gx l1 (x_64.toNat)).1)] : Cells) ++ (([.int .u64 ((gx l1 (x_64.toNat)).2.1)] : Cells) ++ (([.slice A_82 n_83 c_84] : Cells) ++ ([.bool ((gx l1 (x_64.toNat)).2.2.2)] : Cells)))) 41 :: .cells B_22 (([.int .i64 x_56] : Cells) ++ ([.slice A_57 n_58 c_59] : Cells)) 39 :: (T_698 ++ R)) := st_715
         refine WL.store_mid (i := 0) (pre := (([] : Cells))) (mid := (([.int .i64 0] : Cells) ++ ([.slice none 0 0] : Cells))) (post := (([] : Cells))) (ms := (([.int .i64 a_701_0] : Cells) ++ ([.slice A_702_1 n_703_1 c_704_1] : Cells))) st_715 rfl row39 (by first | rfl | simp only [List.append_assoc, List.append_nil, List.nil_append, List.cons_append]) (by first | rfl | simp only [List.length_append, List.length_cons, List.length_nil, iv_length]) rfl rfl (by first | rfl | simp only [List.length_append, List.length_cons, List.length_nil, iv_length]) (by first | rfl | simp only [List.length_append, List.length_cons, List.length_nil, iv_length]) (by intro u hu; simp only [List.mem_append, List.mem_singleton] at hu; rcases hu with hu | hu <;> first | exact one_iv _ _ u hu | (subst hu; rfl)) ?_
         intro w_717 st_718
         replace st_718 : St w w_717 (.cells B_713 (([.int .i64 a_701_0] : Cells) ++ ([.slice A_702_1 n_703_1 c_704_1] : Cells)) 39 :: .cells b_10 (([.int .i64 a_683_0] : Cells) ++ ([.slice A_684_1 n_685_1 c_686_1] : Cells)) 57 :: .sl A_684_1 c_686_1 n_685_1 x_688_1 60 3 :: .sl A_98 c_99 n_100 (iv .u8 r_97) 5 1 :: .cells B_87 (([.int .i64 ((gx l1 (x_64.toNat)).1)] : Cells) ++ (([.int .u64 ((gx l1 (x_64.toNat)).2.1)] : Cells) ++ (([.slice A_82 n_83 c_84] : Cells) ++ ([.bool ((gx l1 (x_64.toNat)).2.2.2)] : Cells)))) 41 :: .cells B_22 (([.int .i64 x_56] : Cells) ++ ([.slice A_57 n_58 c_59] : Cells)) 39 :: (T_698 ++ R)) := by have e_ : (([.int .i64 a_701_0] : Cells) ++ ([.slice A_702_1 n_703_1 c_704_1] : Cells)) = (([] : Cells)) ++ ((([.int .i64 a_701_0] : Cells) ++ ([.slice A_702_1 n_703_1 c_704_1] : Cells)) ++ (([] : Cells))) := (by first | rfl | simp only [List.append_assoc, List.append_nil, List.nil_append, List.cons_append]); have h_ : St w w_717 (.cells B_713 ((([] : Cells)) ++ ((([.int .i64 a_701_0] : Cells) ++ ([.slice A_702_1 n_703_1 c_704_1] : Cells)) ++ (([] : Cells)))) 39 :: .cells b_10 (([.int .i64 a_683_0] : Cells) ++ ([.slice A_684_1 n_685_1 c_686_1] : Cells)) 57 :: .sl A_684_1 c_686_1 n_685_1 x_688_1 60 3 :: .sl A_98 c_99 n_100 (iv .u8 r_97) 5 1 :: .cells B_87 (([.int .i64 ((gx l1 (x_64.toNat)).1)] : Cells) ++ (([.int .u64 ((gx l1 (x_64.toNat)).2.1)] : Cells) ++ (([.slice A_82 n_83 c_84] : Cells) ++ ([.bool ((gx l1 (x_64.toNat)).2.2.2)] : Cells)))) 41 :: .cells B_22 (([.int .i64 x_56] : Cells) ++ ([.slice A_57 n_58 c_59] : Cells)) 39 :: (T_698 ++ R)) := st_718; rw [← e_] at h_; exact h_
         refine WL.val Wanted.none (Runs.assign rfl) ?_
         refine WL.nil ?_
         refine QW.then_n ?_
         refine CW.seq ?_
         refine CW.region ?_
         refine WL.val Wanted.none (Runs.load_mid row39 rfl st_718 (i := 0) rfl (part_mid (pre := (([] : Cells))) (mid := (([.int .i64 a_701_0] : Cells) ++ ([.slice A_702_1 n_703_1 c_704_1] : Cells))) (post := (([] : Cells))) (by first | rfl | simp only [List.append_assoc, List.append_nil, List.nil_append, List.cons_append]) (by first | rfl | simp only [List.length_append, List.length_cons, List.length_nil, iv_length]) (by first | rfl | simp only [List.length_append, List.length_cons, List.length_nil, iv_length])) (by first | rfl | simp only [List.length_append, List.length_cons, List.length_nil, iv_length])) ?_
         refine WL.store_mid (i := 5) (pre := (([] : Cells))) (mid := (([.int .i64 x_56] : Cells) ++ ([.slice A_57 n_58 c_59] : Cells))) (post := (([] : Cells))) (ms := (([.int .i64 a_701_0] : Cells) ++ ([.slice A_702_1 n_703_1 c_704_1] : Cells))) st_718 rfl row39 (by first | rfl | simp only [List.append_assoc, List.append_nil, List.nil_append, List.cons_append]) (by first | rfl | simp only [List.length_append, List.length_cons, List.length_nil, iv_length]) rfl rfl (by first | rfl | simp only [List.length_append, List.length_cons, List.length_nil, iv_length]) (by first | rfl | simp only [List.length_append, List.length_cons, List.length_nil, iv_length]) (by intro u hu; simp only [List.mem_append, List.mem_singleton] at hu; rcases hu with hu | hu <;> first | exact one_iv _ _ u hu | (subst hu; rfl)) ?_
         intro w_719 st_720
         replace st_720 : St w w_719 (.cells B_713 (([.int .i64 a_701_0] : Cells) ++ ([.slice A_702_1 n_703_1 c_704_1] : Cells)) 39 :: .cells b_10 (([.int .i64 a_683_0] : Cells) ++ ([.slice A_684_1 n_685_1 c_686_1] : Cells)) 57 :: .sl A_684_1 c_686_1 n_685_1 x_688_1 60 3 :: .sl A_98 c_99 n_100 (iv .u8 r_97) 5 1 :: .cells B_87 (([.int .i64 ((gx l1 (x_64.toNat)).1)] : Cells) ++ (([.int .u64 ((gx l1 (x_64.toNat)).2.1)] : Cells) ++ (([.slice A_82 n_83 c_84] : Cells) ++ ([.bool ((gx l1 (x_64.toNat)).2.2.2)] : Cells)))) 41 :: .cells B_22 (([.int .i64 a_701_0] : Cells) ++ ([.slice A_702_1 n_703_1 c_704_1] : Cells)) 39 :: (T_698 ++ R)) := by have e_ : (([.int .i64 a_701_0] : Cells) ++ ([.slice A_702_1 n_703_1 c_704_1] : Cells)) = (([] : Cells)) ++ ((([.int .i64 a_701_0] : Cells) ++ ([.slice A_702_1 n_703_1 c_704_1] : Cells)) ++ (([] : Cells))) := (by first | rfl | simp only [List.append_assoc, List.append_nil, List.nil_append, List.cons_append]); have h_ : St w w_719 (.cells B_713 (([.int .i64 a_701_0] : Cells) ++ ([.slice A_702_1 n_703_1 c_704_1] : Cells)) 39 :: .cells b_10 (([.int .i64 a_683_0] : Cells) ++ ([.slice A_684_1 n_685_1 c_686_1] : Cells)) 57 :: .sl A_684_1 c_686_1 n_685_1 x_688_1 60 3 :: .sl A_98 c_99 n_100 (iv .u8 r_97) 5 1 :: .cells B_87 (([.int .i64 ((gx l1 (x_64.toNat)).1)] : Cells) ++ (([.int .u64 ((gx l1 (x_64.toNat)).2.1)] : Cells) ++ (([.slice A_82 n_83 c_84] : Cells) ++ ([.bool ((gx l1 (x_64.toNat)).2.2.2)] : Cells)))) 41 :: .cells B_22 ((([] : Cells)) ++ ((([.int .i64 a_701_0] : Cells) ++ ([.slice A_702_1 n_703_1 c_704_1] : Cells)) ++ (([] : Cells)))) 39 :: (T_698 ++ R)) := st_720; rw [← e_] at h_; exact h_
         refine WL.nil ?_
         refine QW.then_n ?_
         refine CW.region ?_
         refine WL.val Wanted.none (Runs.move rfl) ?_
         refine WL.val Wanted.none (Runs.move rfl) ?_
         refine WL.val Wanted.none (Runs.eqb Try.underlying4 rfl rfl rfl) ?_
         refine WL.val Wanted.none (Runs.assign rfl) ?_
         refine WL.nil ?_
         refine QW.blk_n ?_
         refine QW.then_n ?_
         refine CW.seq ?_
         refine CW.region ?_
         refine WL.val Wanted.none (Runs.move rfl) ?_
         have st_721 := (St.pickT (L := [_, _, _, _, _, _]) st_720 [1, 2, 0, 3, 4, 5] (by decide))
         replace st_721 : St w w_719 (.cells b_10 (([.int .i64 a_683_0] : Cells) ++ ([.slice A_684_1 n_685_1 c_686_1] : Cells)) 57 :: .sl A_684_1 c_686_1 n_685_1 x_688_1 60 3 :: .cells B_713 (([.int .i64 a_701_0] : Cells) ++ ([.slice A_702_1 n_703_1 c_704_1] : Cells)) 39 :: .sl A_98 c_99 n_100 (iv .u8 r_97) 5 1 :: .cells B_87 (([.int .i64 ((gx l1 (x_64.toNat)).1)] : Cells) ++ (([.int .u64 ((gx l1 (x_64.toNat)).2.1)] : Cells) ++ (([.slice A_82 n_83 c_84] : Cells) ++ ([.bool ((gx l1 (x_64.toNat)).2.2.2)] : Cells)))) 41 :: .cells B_22 (([.int .i64 a_701_0] : Cells) ++ ([.slice A_702_1 n_703_1 c_704_1] : Cells)) 39 :: (T_698 ++ R)) := st_721
         have st_722 : St w w_719 (.cells b_10 (([.int .i64 a_683_0] : Cells) ++ ([.slice A_684_1 n_685_1 c_686_1] : Cells)) 57 :: .sl A_684_1 c_686_1 n_685_1 x_688_1 60 3 :: (T_698 ++ (.cells B_713 (([.int .i64 a_701_0] : Cells) ++ ([.slice A_702_1 n_703_1 c_704_1] : Cells)) 39 :: .sl A_98 c_99 n_100 (iv .u8 r_97) 5 1 :: .cells B_87 (([.int .i64 ((gx l1 (x_64.toNat)).1)] : Cells) ++ (([.int .u64 ((gx l1 (x_64.toNat)).2.1)] : Cells) ++ (([.slice A_82 n_83 c_84] : Cells) ++ ([.bool ((gx l1 (x_64.toNat)).2.2.2)] : Cells)))) 41 :: .cells B_22 (([.int .i64 a_701_0] : Cells) ++ ([.slice A_702_1 n_703_1 c_704_1] : Cells)) 39 :: R))) := St.hide (A := [_, _]) (B := [_, _, _, _]) (T := T_698) (R := R) st_721
         obtain ⟨a_726_0, l_730_1, l_738, hr_723, H⟩ := H
         refine WL.call Wanted.none ent13 rfl (buffers_Cache_Blocks.calls w w_719 T_698 (.cells B_713 (([.int .i64 a_701_0] : Cells) ++ ([.slice A_702_1 n_703_1 c_704_1] : Cells)) 39 :: .sl A_98 c_99 n_100 (iv .u8 r_97) 5 1 :: .cells B_87 (([.int .i64 ((gx l1 (x_64.toNat)).1)] : Cells) ++ (([.int .u64 ((gx l1 (x_64.toNat)).2.1)] : Cells) ++ (([.slice A_82 n_83 c_84] : Cells) ++ ([.bool ((gx l1 (x_64.toNat)).2.2.2)] : Cells)))) 41 :: .cells B_22 (([.int .i64 a_701_0] : Cells) ++ ([.slice A_702_1 n_703_1 c_704_1] : Cells)) 39 :: R) a_683_0 l_687_1 b_10 A_684_1 n_685_1 c_686_1 x_688_1  st_722 (hn_689_1) (hx_690_1.mono (fun _ h_ => hs_699.1 _ h_)) a_726_0 l_730_1 l_738 hr_723) ?_
         rintro _ w_741 ⟨T_724, A_727_1, n_728_1, c_729_1, x_731_1, A_735, n_736, c_737, hs_725, hn_732_1, hx_733_1, hn_740, rfl, sc_743⟩
         have st_742 : St w w_741 (.cells b_10 (([.int .i64 a_726_0] : Cells) ++ ([.slice A_727_1 n_728_1 c_729_1] : Cells)) 57 :: .sl A_727_1 c_729_1 n_728_1 x_731_1 60 3 :: .sl A_735 c_737 n_736 (iv .u64 l_738) 29 1 :: .cells B_713 (([.int .i64 a_701_0] : Cells) ++ ([.slice A_702_1 n_703_1 c_704_1] : Cells)) 39 :: .sl A_98 c_99 n_100 (iv .u8 r_97) 5 1 :: .cells B_87 (([.int .i64 ((gx l1 (x_64.toNat)).1)] : Cells) ++ (([.int .u64 ((gx l1 (x_64.toNat)).2.1)] : Cells) ++ (([.slice A_82 n_83 c_84] : Cells) ++ ([.bool ((gx l1 (x_64.toNat)).2.2.2)] : Cells)))) 41 :: .cells B_22 (([.int .i64 a_701_0] : Cells) ++ ([.slice A_702_1 n_703_1 c_704_1] : Cells)) 39 :: (T_724 ++ R)) := St.unhide (A := [_, _, _]) (B := [_, _, _, _]) (T := T_724) (R := R) sc_743
         refine ⟨_, rfl, ?_⟩
         refine WL.val Wanted.none (Runs.assign rfl) ?_
         refine WL.nil ?_
         refine QW.then_n ?_
         refine CW.seq ?_
         refine CW.seq ?_
         refine CW.region ?_
         refine WL.val Wanted.none (Runs.move rfl) ?_
         refine WL.val Wanted.none (Runs.not rfl rfl) ?_
         refine WL.val Wanted.none (Runs.move rfl) ?_
         obtain ⟨c_744, H⟩ := H
         have h_745 : (!(a_692 == a_709)) = false := (not_f (beq_iff_eq.mpr (Decidable.not_not.mp c_744)))
         refine WL.on ?_ ?_; exact Wanted.guard (dj := 169) (by rfl) (evb (by rfl) h_745) (by rfl)
         refine WL.val Wanted.none (Runs.move rfl) ?_
         refine WL.on ?_ ?_; exact Wanted.guard (dj := 169) (by rfl) (evb (by rfl) h_745) (by rfl)
         refine WL.val Wanted.none (Runs.len_sl Try.underlying33 rfl (by rw [hn_740])) ?_
         refine WL.on ?_ ?_; exact Wanted.guard (dj := 169) (by rfl) (evb (by rfl) h_745) (by rfl)
         refine WL.val Wanted.none (Runs.fieldAddr (off := 1) (p := 1) fld39_1 rfl rfl rfl) ?_
         refine WL.on ?_ ?_; exact Wanted.guard (dj := 169) (by rfl) (evb (by rfl) h_745) (by rfl)
         refine WL.val Wanted.none (Runs.load nagg37 rfl (st_742.cell (k := 6) rfl (part_one (u := .slice A_702_1 n_703_1 c_704_1) (pre := (([.int .i64 a_701_0] : Cells))) (post := (([] : Cells))) (by first | rfl | simp only [List.append_assoc, List.append_nil, List.nil_append, List.cons_append]) (by first | rfl | simp only [List.length_append, List.length_cons, List.length_nil, iv_length])))) ?_
         refine WL.on ?_ ?_; exact Wanted.guard (dj := 169) (by rfl) (evb (by rfl) h_745) (by rfl)
         refine WL.val Wanted.none (Runs.len_sl Try.underlying37 rfl (by rw [hb_707_1.1])) ?_
         refine WL.on ?_ ?_; exact Wanted.guard (dj := 169) (by rfl) (evb (by rfl) h_745) (by rfl)
         refine WL.val Wanted.none (Runs.neq rfl rfl rfl) ?_
         refine WL.val Wanted.none (Runs.pick_f (evb rfl h_745) rfl) ?_
         refine WL.nil ?_
         refine QW.then_n ?_
         obtain ⟨c_746, H⟩ := H
         have h_747 : ((l_738.length : Int) != (l_705_1.length : Int)) = false := (bne_eq_false_iff_eq.mpr (Decidable.not_not.mp c_746))
         refine CW.cf rfl h_747 ?_
         refine CW.skip ?_
         refine QW.then_n ?_
         refine CW.seq ?_
         refine CW.region ?_
         refine WL.val Wanted.none (Runs.assign rfl) ?_
         refine WL.nil ?_
         refine QW.then_n ?_
         refine CW.block ?_
         obtain ⟨k_748, H⟩ := H
         refine CW.sub [(1, .slice A1 n1 c1), (4, .bool b_63), (6, .pointer (some ⟨b_10, 0, none⟩)), (7, .pointer (some ⟨B_22, 0, none⟩)), (8, .int .i64 x_64), (38, .int .i64 x_64), (39, .slice A1 n1 c1), (40, .int .i64 (l1.length : Int)), (41, .bool (decide (x_64 < (l1.length : Int)))), (42, .bool (decide (x_64 < (l1.length : Int)))), (43, .int .i64 x_64), (44, .bool (decide (x_64 < 60))), (45, .bool (decide (x_64 < 60))), (48, .slice A1 n1 c1), (49, .int .i64 x_64), (50, .pointer (some (a_77.add ((x_64.toNat) * 4)))), (51, .agg (([.int .i64 ((gx l1 (x_64.toNat)).1)] : Cells) ++ (([.int .u64 ((gx l1 (x_64.toNat)).2.1)] : Cells) ++ (([.slice A_82 n_83 c_84] : Cells) ++ ([.bool ((gx l1 (x_64.toNat)).2.2.2)] : Cells)))).toArray), (9, .pointer (some ⟨B_87, 0, none⟩)), (52, .pointer (some ⟨B_87, 2, none⟩)), (53, .slice A_82 n_83 c_84), (54, .pointer (some ⟨B_87, 3, none⟩)), (55, .bool ((gx l1 (x_64.toNat)).2.2.2)), (56, .slice A_98 n_100 c_99), (10, .slice A_98 n_100 c_99), (11, .bool (a_692 == a_709)), (57, .pointer (some ⟨B_87, 0, none⟩)), (58, .int .i64 ((gx l1 (x_64.toNat)).1)), (59, .int .i64 (bits .and .i64 ((gx l1 (x_64.toNat)).1) 7)), (66, .bool ((bits .and .i64 ((gx l1 (x_64.toNat)).1) 7) == 0)), (65, .bool ((bits .and .i64 ((gx l1 (x_64.toNat)).1) 7) == 1)), (67, .bool ((bits .and .i64 ((gx l1 (x_64.toNat)).1) 7) == 1)), (87, .bool ((bits .and .i64 ((gx l1 (x_64.toNat)).1) 7) == 2)), (86, .bool ((bits .and .i64 ((gx l1 (x_64.toNat)).1) 7) == 3)), (88, .bool ((bits .and .i64 ((gx l1 (x_64.toNat)).1) 7) == 3)), (115, .bool ((bits .and .i64 ((gx l1 (x_64.toNat)).1) 7) == 4)), (114, .bool ((bits .and .i64 ((gx l1 (x_64.toNat)).1) 7) == 4)), (132, .bool ((bits .and .i64 ((gx l1 (x_64.toNat)).1) 7) == 5)), (131, .bool ((bits .and .i64 ((gx l1 (x_64.toNat)).1) 7) == 5)), (133, .pointer (some ⟨b_10, 0, none⟩)), (134, .pointer (some ⟨B_87, 1, none⟩)), (135, .int .u64 ((gx l1 (x_64.toNat)).2.1)), (136, .bool a_692), (23, .bool a_692), (138, .agg (([.int .i64 x_56] : Cells) ++ ([.slice A_57 n_58 c_59] : Cells)).toArray), (139, .pointer (some ⟨B_87, 1, none⟩)), (140, .int .u64 ((gx l1 (x_64.toNat)).2.1)), (141, .tuple #[.agg (([.int .i64 a_701_0] : Cells) ++ ([.slice A_702_1 n_703_1 c_704_1] : Cells)).toArray, .bool a_709]), (137, .tuple #[.agg (([.int .i64 a_701_0] : Cells) ++ ([.slice A_702_1 n_703_1 c_704_1] : Cells)).toArray, .bool a_709]), (142, .agg (([.int .i64 a_701_0] : Cells) ++ ([.slice A_702_1 n_703_1 c_704_1] : Cells)).toArray), (143, .bool a_709), (24, .pointer (some ⟨B_713, 0, none⟩)), (25, .bool a_709), (144, .agg (([.int .i64 a_701_0] : Cells) ++ ([.slice A_702_1 n_703_1 c_704_1] : Cells)).toArray), (145, .bool a_692), (146, .bool a_709), (147, .bool (a_692 == a_709)), (165, .pointer (some ⟨b_10, 0, none⟩)), (166, .slice A_735 n_736 c_737), (29, .slice A_735 n_736 c_737), (167, .bool (a_692 == a_709)), (168, .bool (!(a_692 == a_709))), (169, .bool (!(a_692 == a_709))), (170, .slice A_735 n_736 c_737), (171, .int .i64 (l_738.length : Int)), (172, .pointer (some ⟨B_22, 1, none⟩)), (173, .slice A_702_1 n_703_1 c_704_1), (174, .int .i64 (l_705_1.length : Int)), (175, .bool ((l_738.length : Int) != (l_705_1.length : Int))), (176, .bool ((l_738.length : Int) != (l_705_1.length : Int))), (30, .int .i64 0)] (by repeat' constructor) ?_
         refine CW.loop (fun kL7 l_ w_ => ∃ (T_749 : Pool) (b_751 : Bool) (x_752 : Int), l_ = [(1, .slice A1 n1 c1), (4, .bool b_751), (6, .pointer (some ⟨b_10, 0, none⟩)), (7, .pointer (some ⟨B_22, 0, none⟩)), (8, .int .i64 x_64), (38, .int .i64 x_64), (39, .slice A1 n1 c1), (40, .int .i64 (l1.length : Int)), (41, .bool (decide (x_64 < (l1.length : Int)))), (42, .bool (decide (x_64 < (l1.length : Int)))), (43, .int .i64 x_64), (44, .bool (decide (x_64 < 60))), (45, .bool (decide (x_64 < 60))), (48, .slice A1 n1 c1), (49, .int .i64 x_64), (50, .pointer (some (a_77.add ((x_64.toNat) * 4)))), (51, .agg (([.int .i64 ((gx l1 (x_64.toNat)).1)] : Cells) ++ (([.int .u64 ((gx l1 (x_64.toNat)).2.1)] : Cells) ++ (([.slice A_82 n_83 c_84] : Cells) ++ ([.bool ((gx l1 (x_64.toNat)).2.2.2)] : Cells)))).toArray), (9, .pointer (some ⟨B_87, 0, none⟩)), (52, .pointer (some ⟨B_87, 2, none⟩)), (53, .slice A_82 n_83 c_84), (54, .pointer (some ⟨B_87, 3, none⟩)), (55, .bool ((gx l1 (x_64.toNat)).2.2.2)), (56, .slice A_98 n_100 c_99), (10, .slice A_98 n_100 c_99), (11, .bool (a_692 == a_709)), (57, .pointer (some ⟨B_87, 0, none⟩)), (58, .int .i64 ((gx l1 (x_64.toNat)).1)), (59, .int .i64 (bits .and .i64 ((gx l1 (x_64.toNat)).1) 7)), (66, .bool ((bits .and .i64 ((gx l1 (x_64.toNat)).1) 7) == 0)), (65, .bool ((bits .and .i64 ((gx l1 (x_64.toNat)).1) 7) == 1)), (67, .bool ((bits .and .i64 ((gx l1 (x_64.toNat)).1) 7) == 1)), (87, .bool ((bits .and .i64 ((gx l1 (x_64.toNat)).1) 7) == 2)), (86, .bool ((bits .and .i64 ((gx l1 (x_64.toNat)).1) 7) == 3)), (88, .bool ((bits .and .i64 ((gx l1 (x_64.toNat)).1) 7) == 3)), (115, .bool ((bits .and .i64 ((gx l1 (x_64.toNat)).1) 7) == 4)), (114, .bool ((bits .and .i64 ((gx l1 (x_64.toNat)).1) 7) == 4)), (132, .bool ((bits .and .i64 ((gx l1 (x_64.toNat)).1) 7) == 5)), (131, .bool ((bits .and .i64 ((gx l1 (x_64.toNat)).1) 7) == 5)), (133, .pointer (some ⟨b_10, 0, none⟩)), (134, .pointer (some ⟨B_87, 1, none⟩)), (135, .int .u64 ((gx l1 (x_64.toNat)).2.1)), (136, .bool a_692), (23, .bool a_692), (138, .agg (([.int .i64 x_56] : Cells) ++ ([.slice A_57 n_58 c_59] : Cells)).toArray), (139, .pointer (some ⟨B_87, 1, none⟩)), (140, .int .u64 ((gx l1 (x_64.toNat)).2.1)), (141, .tuple #[.agg (([.int .i64 a_701_0] : Cells) ++ ([.slice A_702_1 n_703_1 c_704_1] : Cells)).toArray, .bool a_709]), (137, .tuple #[.agg (([.int .i64 a_701_0] : Cells) ++ ([.slice A_702_1 n_703_1 c_704_1] : Cells)).toArray, .bool a_709]), (142, .agg (([.int .i64 a_701_0] : Cells) ++ ([.slice A_702_1 n_703_1 c_704_1] : Cells)).toArray), (143, .bool a_709), (24, .pointer (some ⟨B_713, 0, none⟩)), (25, .bool a_709), (144, .agg (([.int .i64 a_701_0] : Cells) ++ ([.slice A_702_1 n_703_1 c_704_1] : Cells)).toArray), (145, .bool a_692), (146, .bool a_709), (147, .bool (a_692 == a_709)), (165, .pointer (some ⟨b_10, 0, none⟩)), (166, .slice A_735 n_736 c_737), (29, .slice A_735 n_736 c_737), (167, .bool (a_692 == a_709)), (168, .bool (!(a_692 == a_709))), (169, .bool (!(a_692 == a_709))), (170, .slice A_735 n_736 c_737), (171, .int .i64 (l_738.length : Int)), (172, .pointer (some ⟨B_22, 1, none⟩)), (173, .slice A_702_1 n_703_1 c_704_1), (174, .int .i64 (l_705_1.length : Int)), (175, .bool ((l_738.length : Int) != (l_705_1.length : Int))), (176, .bool ((l_738.length : Int) != (l_705_1.length : Int))), (30, .int .i64 x_752)] ∧ reliquarylaw15_BuffersPlays.L7 x_64 a_701_0 l_705_1 a_726_0 l_730_1 l_738 (reliquarylaw15_BuffersPlays.L1 l1 kL1) kL7 b_751 x_752 ∧ (Pl T_724 T_749) ∧ St w w_ (.cells b_10 (([.int .i64 a_726_0] : Cells) ++ ([.slice A_727_1 n_728_1 c_729_1] : Cells)) 57 :: .sl A_727_1 c_729_1 n_728_1 x_731_1 60 3 :: .sl A_735 c_737 n_736 (iv .u64 l_738) 29 1 :: .cells B_713 (([.int .i64 a_701_0] : Cells) ++ ([.slice A_702_1 n_703_1 c_704_1] : Cells)) 39 :: .sl A_98 c_99 n_100 (iv .u8 r_97) 5 1 :: .cells B_87 (([.int .i64 ((gx l1 (x_64.toNat)).1)] : Cells) ++ (([.int .u64 ((gx l1 (x_64.toNat)).2.1)] : Cells) ++ (([.slice A_82 n_83 c_84] : Cells) ++ ([.bool ((gx l1 (x_64.toNat)).2.2.2)] : Cells)))) 41 :: .cells B_22 (([.int .i64 a_701_0] : Cells) ++ ([.slice A_702_1 n_703_1 c_704_1] : Cells)) 39 :: (T_749 ++ R))) (k := k_748) ⟨T_724, b_63, 0, rfl, H, Pl.refl, st_742⟩ (fun _ _ h => by obtain ⟨_, _, _, _, h, _⟩ := h; exact h.elim) ?_
         rintro kL7 l_755 w_753 ⟨T_749, b_751, x_752, rfl, H, hs_750, st_754⟩
         refine CW.seq ?_
         refine CW.seq ?_
         refine CW.region ?_
         refine WL.val Wanted.none (Runs.move rfl) ?_
         refine WL.val Wanted.none (Runs.move rfl) ?_
         refine WL.val Wanted.none (Runs.len_sl Try.underlying33 rfl (by rw [hn_740])) ?_
         refine WL.val Wanted.none (Runs.lss rfl rfl rfl) ?_
         refine WL.nil ?_
         refine QW.then_n ?_
         rcases H with ⟨c_756, H⟩ | ⟨c_756, H⟩
         ·have h_757 : (decide (x_752 < (l_738.length : Int))) = true := (decide_eq_true c_756)
          refine CW.ct rfl h_757 ?_
          refine CW.skip ?_
          refine QW.then_n ?_
          refine CW.seq ?_
          refine CW.block ?_
          refine CW.seq ?_
          refine CW.region_qa wide (by kernel_rfl) st_754 ?_
          refine HL.val Wanted.none (fun wq sq => (Runs.move rfl)) ?_
          refine HL.val Wanted.none (fun wq sq => (Runs.move rfl)) ?_
          obtain ⟨⟨p_758, q_759⟩, H⟩ := H
          obtain ⟨a_760, e_761⟩ := (st_754.src_sl (k := 2) rfl).addr_iv (x_752.toNat) (by omega)
          refine HL.val Wanted.none (fun wq sq => (Runs.indexAddr Try.underlying33 cells29 (by decide) rfl e_761 rfl p_758 (by rw [hn_740]; exact q_759) (o := (x_752).toNat) (by first | rfl | omega))) ?_
          refine HL.val Wanted.none (fun wq sq => (Runs.load nagg29 rfl ((sq.src_sl (k := 2) rfl).cell_iv e_761 (by omega)))) ?_
          refine HL.val Wanted.none (fun wq sq => (Runs.fieldAddr (off := 1) (p := 1) fld39_1 rfl rfl rfl)) ?_
          refine HL.val Wanted.none (fun wq sq => (Runs.load nagg37 rfl (sq.cell (k := 6) rfl (part_one (u := .slice A_702_1 n_703_1 c_704_1) (pre := (([.int .i64 a_701_0] : Cells))) (post := (([] : Cells))) (by first | rfl | simp only [List.append_assoc, List.append_nil, List.nil_append, List.cons_append]) (by first | rfl | simp only [List.length_append, List.length_cons, List.length_nil, iv_length]))))) ?_
          refine HL.val Wanted.none (fun wq sq => (Runs.move rfl)) ?_
          obtain ⟨⟨p_762, q_763⟩, H⟩ := H
          obtain ⟨x_764, hs_765, hr_766⟩ := hb_707_1.2.2
          obtain ⟨a_767, e_768, ms_769, hc_770, hm_771⟩ := el_get (i := (x_752).toNat) ((hs_765.at st_754 (mem_T (A := [_, _, _, _, _, _, _]) (fun _ h_ => hs_750.1 _ (hs_725.1 _ h_))))) (hr_766.mono (fun _ h_ => hs_750.1 _ (hs_725.1 _ h_))) (fz51 w) (by decide) (by omega)
          obtain em_772 := inv51 hm_771
          replace em_772 : ms_769 = ([.int .u64 ((gx l_705_1 (x_752.toNat)).1)] : Cells) ++ (([.string ((gx l_705_1 (x_752.toNat)).2.1)] : Cells) ++ ([.int .i64 ((gx l_705_1 (x_752.toNat)).2.2)] : Cells)) := em_772
          subst em_772
          refine HL.val Wanted.none (fun wq sq => (Runs.indexAddr Try.underlying37 cells51 (by decide) rfl e_768 rfl p_762 (by rw [show n_703_1 = l_705_1.length from hb_707_1.1]; exact q_763) (o := (x_752.toNat) * 3) (by first | rfl | omega))) ?_
          refine HL.val Wanted.none (fun wq sq => (Runs.fieldAddrB (off := 0) fld51_0 rfl rfl rfl)) ?_
          refine HL.val Wanted.none (fun wq sq => (Runs.load nagg29 rfl (Src.cellAt (j := 0) (Src.cut ((hs_765.at sq (mem_T (A := [_, _, _, _, _, _, _]) (fun _ h_ => hs_750.1 _ (hs_725.1 _ h_))))) e_768 hc_770) rfl))) ?_
          refine HL.val Wanted.none (fun wq sq => (Runs.neq rfl rfl rfl)) ?_
          refine HL.nil (fun w_773 st_774 => ?_)
          refine WL.nil ?_
          refine QW.then_n ?_
          obtain ⟨c_775, H⟩ := H
          have h_776 : ((gn l_738 (x_752.toNat)) != ((gx l_705_1 (x_752.toNat)).1)) = false := (bne_eq_false_iff_eq.mpr (Decidable.not_not.mp c_775))
          refine CW.cf rfl h_776 ?_
          refine CW.skip ?_
          refine QW.blk_n ?_
          refine QW.then_n ?_
          refine CW.region ?_
          refine WL.val Wanted.none (Runs.move rfl) ?_
          refine WL.val Wanted.none (Runs.add rfl rfl rfl) ?_
          refine WL.val Wanted.none (Runs.assign rfl) ?_
          refine WL.nil ?_
          exact QW.at _ (by repeat' constructor) ⟨T_749, b_751, IntKind.i64.wrap (x_752 + 1), rfl, H, hs_750, st_774⟩
         ·have h_757 : (decide (x_752 < (l_738.length : Int))) = false := (decide_eq_false c_756)
          refine CW.cf rfl h_757 ?_
          refine CW.exit ?_
          refine QW.then_x ?_
          refine QW.then_x ?_
          refine QW.blk_x ?_
          refine QW.blk_n ?_
          refine QW.then_n ?_
          refine CW.region ?_
          refine WL.val Wanted.none (Runs.move rfl) ?_
          refine WL.val Wanted.none (Runs.add rfl rfl rfl) ?_
          refine WL.val Wanted.none (Runs.assign rfl) ?_
          refine WL.nil ?_
          have st_754' := (St.pickT (L := [_, _, _, _, _, _, _]) st_754 [6, 0, 1] (by decide))
          exact QW.at _ (by repeat' constructor) ⟨T_749, A_727_1, c_729_1, n_728_1, x_731_1, l_730_1, a_701_0, A_702_1, n_703_1, c_704_1, l_705_1, a_726_0, b_751, IntKind.i64.wrap (x_64 + 1), rfl, H, ((((hs_48.trans hs_682).trans hs_699).trans hs_725).trans hs_750), hn_732_1, (hx_733_1.mono (fun _ h_ => hs_750.1 _ h_)), (hb_707_1.mono (fun _ h_ => hs_750.1 _ (hs_725.1 _ h_)) (fun _ h_ => hs_750.1 _ (hs_725.1 _ h_))), st_754'⟩
        ·have h_677 : ((bits .and .i64 ((gx l1 (x_64.toNat)).1) 7) == 5) = false := (beq_eq_false_iff_ne.mpr c_676)
         refine CW.cf rfl h_677 ?_
         refine CW.seq ?_
         refine CW.region ?_
         refine WL.val Wanted.none (Runs.eql rfl rfl rfl) ?_
         refine WL.val Wanted.none (Runs.assign rfl) ?_
         refine WL.nil ?_
         refine QW.then_n ?_
         rcases H with ⟨c_777, H⟩ | ⟨c_777, H⟩
         ·have h_778 : ((bits .and .i64 ((gx l1 (x_64.toNat)).1) 7) == 6) = true := (beq_iff_eq.mpr c_777)
          refine CW.ct rfl h_778 ?_
          refine CW.seq ?_
          refine CW.region ?_
          refine WL.val Wanted.none (Runs.move rfl) ?_
          refine WL.val Wanted.none (Runs.fieldAddr (off := 1) (p := 1) fld41_1 rfl rfl rfl) ?_
          refine WL.val Wanted.none (Runs.load nagg29 rfl (st_95.cell (k := 1) rfl (part_one (u := .int .u64 ((gx l1 (x_64.toNat)).2.1)) (pre := (([.int .i64 ((gx l1 (x_64.toNat)).1)] : Cells))) (post := (([.slice A_82 n_83 c_84] : Cells) ++ ([.bool ((gx l1 (x_64.toNat)).2.2.2)] : Cells))) (by first | rfl | simp only [List.append_assoc, List.append_nil, List.nil_append, List.cons_append]) (by first | rfl | simp only [List.length_append, List.length_cons, List.length_nil, iv_length])))) ?_
          have st_779 := (St.pickT (L := [_, _, _, _, _]) st_95 [3, 4, 0, 1, 2] (by decide))
          replace st_779 : St w w_94 (.cells b_10 (([.int .i64 x_62] : Cells) ++ ([.slice A_53 n_55 c_54] : Cells)) 57 :: .sl A_53 c_54 n_55 x_51 60 3 :: .sl A_98 c_99 n_100 (iv .u8 r_97) 5 1 :: .cells B_87 (([.int .i64 ((gx l1 (x_64.toNat)).1)] : Cells) ++ (([.int .u64 ((gx l1 (x_64.toNat)).2.1)] : Cells) ++ (([.slice A_82 n_83 c_84] : Cells) ++ ([.bool ((gx l1 (x_64.toNat)).2.2.2)] : Cells)))) 41 :: .cells B_22 (([.int .i64 x_56] : Cells) ++ ([.slice A_57 n_58 c_59] : Cells)) 39 :: (T_47 ++ R)) := st_779
          have st_780 : St w w_94 (.cells b_10 (([.int .i64 x_62] : Cells) ++ ([.slice A_53 n_55 c_54] : Cells)) 57 :: .sl A_53 c_54 n_55 x_51 60 3 :: (T_47 ++ (.sl A_98 c_99 n_100 (iv .u8 r_97) 5 1 :: .cells B_87 (([.int .i64 ((gx l1 (x_64.toNat)).1)] : Cells) ++ (([.int .u64 ((gx l1 (x_64.toNat)).2.1)] : Cells) ++ (([.slice A_82 n_83 c_84] : Cells) ++ ([.bool ((gx l1 (x_64.toNat)).2.2.2)] : Cells)))) 41 :: .cells B_22 (([.int .i64 x_56] : Cells) ++ ([.slice A_57 n_58 c_59] : Cells)) 39 :: R))) := St.hide (A := [_, _]) (B := [_, _, _]) (T := T_47) (R := R) st_779
          obtain ⟨a_784_0, l_788_1, a_793, hr_781, H⟩ := H
          refine WL.call Wanted.none ent19 rfl (buffers_Cache_Drop.calls w w_94 T_47 (.sl A_98 c_99 n_100 (iv .u8 r_97) 5 1 :: .cells B_87 (([.int .i64 ((gx l1 (x_64.toNat)).1)] : Cells) ++ (([.int .u64 ((gx l1 (x_64.toNat)).2.1)] : Cells) ++ (([.slice A_82 n_83 c_84] : Cells) ++ ([.bool ((gx l1 (x_64.toNat)).2.2.2)] : Cells)))) 41 :: .cells B_22 (([.int .i64 x_56] : Cells) ++ ([.slice A_57 n_58 c_59] : Cells)) 39 :: R) x_62 l_49 ((gx l1 (x_64.toNat)).2.1) b_10 A_53 n_55 c_54 x_51  st_780 (hn_50) hx_52 a_784_0 l_788_1 a_793 hr_781) ?_
          rintro _ w_794 ⟨T_782, A_785_1, n_786_1, c_787_1, x_789_1, hs_783, hn_790_1, hx_791_1, rfl, sc_796⟩
          have st_795 : St w w_794 (.cells b_10 (([.int .i64 a_784_0] : Cells) ++ ([.slice A_785_1 n_786_1 c_787_1] : Cells)) 57 :: .sl A_785_1 c_787_1 n_786_1 x_789_1 60 3 :: .sl A_98 c_99 n_100 (iv .u8 r_97) 5 1 :: .cells B_87 (([.int .i64 ((gx l1 (x_64.toNat)).1)] : Cells) ++ (([.int .u64 ((gx l1 (x_64.toNat)).2.1)] : Cells) ++ (([.slice A_82 n_83 c_84] : Cells) ++ ([.bool ((gx l1 (x_64.toNat)).2.2.2)] : Cells)))) 41 :: .cells B_22 (([.int .i64 x_56] : Cells) ++ ([.slice A_57 n_58 c_59] : Cells)) 39 :: (T_782 ++ R)) := St.unhide (A := [_, _]) (B := [_, _, _]) (T := T_782) (R := R) sc_796
          refine ⟨_, rfl, ?_⟩
          refine WL.val Wanted.none (Runs.assign rfl) ?_
          refine WL.nil ?_
          refine QW.then_n ?_
          refine CW.seq ?_
          refine CW.region ?_
          refine WL.val Wanted.none (Runs.load_mid row39 rfl st_795 (i := 4) rfl (part_mid (pre := (([] : Cells))) (mid := (([.int .i64 x_56] : Cells) ++ ([.slice A_57 n_58 c_59] : Cells))) (post := (([] : Cells))) (by first | rfl | simp only [List.append_assoc, List.append_nil, List.nil_append, List.cons_append]) (by first | rfl | simp only [List.length_append, List.length_cons, List.length_nil, iv_length]) (by first | rfl | simp only [List.length_append, List.length_cons, List.length_nil, iv_length])) (by first | rfl | simp only [List.length_append, List.length_cons, List.length_nil, iv_length])) ?_
          refine WL.val Wanted.none (Runs.fieldAddr (off := 1) (p := 1) fld41_1 rfl rfl rfl) ?_
          refine WL.val Wanted.none (Runs.load nagg29 rfl (st_795.cell (k := 3) rfl (part_one (u := .int .u64 ((gx l1 (x_64.toNat)).2.1)) (pre := (([.int .i64 ((gx l1 (x_64.toNat)).1)] : Cells))) (post := (([.slice A_82 n_83 c_84] : Cells) ++ ([.bool ((gx l1 (x_64.toNat)).2.2.2)] : Cells))) (by first | rfl | simp only [List.append_assoc, List.append_nil, List.nil_append, List.cons_append]) (by first | rfl | simp only [List.length_append, List.length_cons, List.length_nil, iv_length])))) ?_
          have st_797 : St w w_794 ((T_782 ++ (.cells b_10 (([.int .i64 a_784_0] : Cells) ++ ([.slice A_785_1 n_786_1 c_787_1] : Cells)) 57 :: .sl A_785_1 c_787_1 n_786_1 x_789_1 60 3 :: .sl A_98 c_99 n_100 (iv .u8 r_97) 5 1 :: .cells B_87 (([.int .i64 ((gx l1 (x_64.toNat)).1)] : Cells) ++ (([.int .u64 ((gx l1 (x_64.toNat)).2.1)] : Cells) ++ (([.slice A_82 n_83 c_84] : Cells) ++ ([.bool ((gx l1 (x_64.toNat)).2.2.2)] : Cells)))) 41 :: .cells B_22 (([.int .i64 x_56] : Cells) ++ ([.slice A_57 n_58 c_59] : Cells)) 39 :: R))) := St.hide (A := []) (B := [_, _, _, _, _]) (T := T_782) (R := R) st_795
          obtain ⟨a_802_0, l_806_1, a_810, hr_798, H⟩ := H
          refine WL.call Wanted.none ent20 rfl (reliquaryref15_Drop.calls w w_794 T_782 (.cells b_10 (([.int .i64 a_784_0] : Cells) ++ ([.slice A_785_1 n_786_1 c_787_1] : Cells)) 57 :: .sl A_785_1 c_787_1 n_786_1 x_789_1 60 3 :: .sl A_98 c_99 n_100 (iv .u8 r_97) 5 1 :: .cells B_87 (([.int .i64 ((gx l1 (x_64.toNat)).1)] : Cells) ++ (([.int .u64 ((gx l1 (x_64.toNat)).2.1)] : Cells) ++ (([.slice A_82 n_83 c_84] : Cells) ++ ([.bool ((gx l1 (x_64.toNat)).2.2.2)] : Cells)))) 41 :: .cells B_22 (([.int .i64 x_56] : Cells) ++ ([.slice A_57 n_58 c_59] : Cells)) 39 :: R) x_56 l_60 ((gx l1 (x_64.toNat)).2.1) A_57 n_58 c_59  st_797 (hb_61.mono (fun _ h_ => hs_783.1 _ h_) (fun _ h_ => hs_783.1 _ h_)) a_802_0 l_806_1 a_810 hr_798) ?_
          rintro _ w_811 ⟨T_799, A_803_1, n_804_1, c_805_1, hs_800, hb_808_1, rfl, sc_813⟩
          have st_812 : St w w_811 (.cells b_10 (([.int .i64 a_784_0] : Cells) ++ ([.slice A_785_1 n_786_1 c_787_1] : Cells)) 57 :: .sl A_785_1 c_787_1 n_786_1 x_789_1 60 3 :: .sl A_98 c_99 n_100 (iv .u8 r_97) 5 1 :: .cells B_87 (([.int .i64 ((gx l1 (x_64.toNat)).1)] : Cells) ++ (([.int .u64 ((gx l1 (x_64.toNat)).2.1)] : Cells) ++ (([.slice A_82 n_83 c_84] : Cells) ++ ([.bool ((gx l1 (x_64.toNat)).2.2.2)] : Cells)))) 41 :: .cells B_22 (([.int .i64 x_56] : Cells) ++ ([.slice A_57 n_58 c_59] : Cells)) 39 :: (T_799 ++ R)) := St.unhide (A := []) (B := [_, _, _, _, _]) (T := T_799) (R := R) sc_813
          refine ⟨_, rfl, ?_⟩
          refine WL.val Wanted.none (Runs.move rfl) ?_
          refine WL.val Wanted.none (Runs.extract rfl rfl) ?_
          refine WL.val Wanted.none (Runs.extract rfl rfl) ?_
          refine WL.alloc st_812 zero39 ?_
          intro B_814 w_815 st_816
          replace st_816 : St w w_815 (.cells B_814 (([.int .i64 0] : Cells) ++ ([.slice none 0 0] : Cells)) 39 :: .cells b_10 (([.int .i64 a_784_0] : Cells) ++ ([.slice A_785_1 n_786_1 c_787_1] : Cells)) 57 :: .sl A_785_1 c_787_1 n_786_1 x_789_1 60 3 :: .sl A_98 c_99 n_100 (iv .u8 r_97) 5 1 :: .cells B_87 (([.int .i64 ((gx l1 (x_64.toNat)).1)] : Cells) ++ (([.int .u64 ((gx l1 (x_64.toNat)).2.1)] : Cells) ++ (([.slice A_82 n_83 c_84] : Cells) ++ ([.bool ((gx l1 (x_64.toNat)).2.2.2)] : Cells)))) 41 :: .cells B_22 (([.int .i64 x_56] : Cells) ++ ([.slice A_57 n_58 c_59] : Cells)) 39 :: (T_799 ++ R)) := st_816
          refine WL.store_mid (i := 0) (pre := (([] : Cells))) (mid := (([.int .i64 0] : Cells) ++ ([.slice none 0 0] : Cells))) (post := (([] : Cells))) (ms := (([.int .i64 a_802_0] : Cells) ++ ([.slice A_803_1 n_804_1 c_805_1] : Cells))) st_816 rfl row39 (by first | rfl | simp only [List.append_assoc, List.append_nil, List.nil_append, List.cons_append]) (by first | rfl | simp only [List.length_append, List.length_cons, List.length_nil, iv_length]) rfl rfl (by first | rfl | simp only [List.length_append, List.length_cons, List.length_nil, iv_length]) (by first | rfl | simp only [List.length_append, List.length_cons, List.length_nil, iv_length]) (by intro u hu; simp only [List.mem_append, List.mem_singleton] at hu; rcases hu with hu | hu <;> first | exact one_iv _ _ u hu | (subst hu; rfl)) ?_
          intro w_818 st_819
          replace st_819 : St w w_818 (.cells B_814 (([.int .i64 a_802_0] : Cells) ++ ([.slice A_803_1 n_804_1 c_805_1] : Cells)) 39 :: .cells b_10 (([.int .i64 a_784_0] : Cells) ++ ([.slice A_785_1 n_786_1 c_787_1] : Cells)) 57 :: .sl A_785_1 c_787_1 n_786_1 x_789_1 60 3 :: .sl A_98 c_99 n_100 (iv .u8 r_97) 5 1 :: .cells B_87 (([.int .i64 ((gx l1 (x_64.toNat)).1)] : Cells) ++ (([.int .u64 ((gx l1 (x_64.toNat)).2.1)] : Cells) ++ (([.slice A_82 n_83 c_84] : Cells) ++ ([.bool ((gx l1 (x_64.toNat)).2.2.2)] : Cells)))) 41 :: .cells B_22 (([.int .i64 x_56] : Cells) ++ ([.slice A_57 n_58 c_59] : Cells)) 39 :: (T_799 ++ R)) := by have e_ : (([.int .i64 a_802_0] : Cells) ++ ([.slice A_803_1 n_804_1 c_805_1] : Cells)) = (([] : Cells)) ++ ((([.int .i64 a_802_0] : Cells) ++ ([.slice A_803_1 n_804_1 c_805_1] : Cells)) ++ (([] : Cells))) := (by first | rfl | simp only [List.append_assoc, List.append_nil, List.nil_append, List.cons_append]); have h_ : St w w_818 (.cells B_814 ((([] : Cells)) ++ ((([.int .i64 a_802_0] : Cells) ++ ([.slice A_803_1 n_804_1 c_805_1] : Cells)) ++ (([] : Cells)))) 39 :: .cells b_10 (([.int .i64 a_784_0] : Cells) ++ ([.slice A_785_1 n_786_1 c_787_1] : Cells)) 57 :: .sl A_785_1 c_787_1 n_786_1 x_789_1 60 3 :: .sl A_98 c_99 n_100 (iv .u8 r_97) 5 1 :: .cells B_87 (([.int .i64 ((gx l1 (x_64.toNat)).1)] : Cells) ++ (([.int .u64 ((gx l1 (x_64.toNat)).2.1)] : Cells) ++ (([.slice A_82 n_83 c_84] : Cells) ++ ([.bool ((gx l1 (x_64.toNat)).2.2.2)] : Cells)))) 41 :: .cells B_22 (([.int .i64 x_56] : Cells) ++ ([.slice A_57 n_58 c_59] : Cells)) 39 :: (T_799 ++ R)) := st_819; rw [← e_] at h_; exact h_
          refine WL.val Wanted.none (Runs.assign rfl) ?_
          refine WL.nil ?_
          refine QW.then_n ?_
          refine CW.seq ?_
          refine CW.region ?_
          refine WL.val Wanted.none (Runs.load_mid row39 rfl st_819 (i := 0) rfl (part_mid (pre := (([] : Cells))) (mid := (([.int .i64 a_802_0] : Cells) ++ ([.slice A_803_1 n_804_1 c_805_1] : Cells))) (post := (([] : Cells))) (by first | rfl | simp only [List.append_assoc, List.append_nil, List.nil_append, List.cons_append]) (by first | rfl | simp only [List.length_append, List.length_cons, List.length_nil, iv_length]) (by first | rfl | simp only [List.length_append, List.length_cons, List.length_nil, iv_length])) (by first | rfl | simp only [List.length_append, List.length_cons, List.length_nil, iv_length])) ?_
          refine WL.store_mid (i := 5) (pre := (([] : Cells))) (mid := (([.int .i64 x_56] : Cells) ++ ([.slice A_57 n_58 c_59] : Cells))) (post := (([] : Cells))) (ms := (([.int .i64 a_802_0] : Cells) ++ ([.slice A_803_1 n_804_1 c_805_1] : Cells))) st_819 rfl row39 (by first | rfl | simp only [List.append_assoc, List.append_nil, List.nil_append, List.cons_append]) (by first | rfl | simp only [List.length_append, List.length_cons, List.length_nil, iv_length]) rfl rfl (by first | rfl | simp only [List.length_append, List.length_cons, List.length_nil, iv_length]) (by first | rfl | simp only [List.length_append, List.length_cons, List.length_nil, iv_length]) (by intro u hu; simp only [List.mem_append, List.mem_singleton] at hu; rcases hu with hu | hu <;> first | exact one_iv _ _ u hu | (subst hu; rfl)) ?_
          intro w_820 st_821
          replace st_821 : St w w_820 (.cells B_814 (([.int .i64 a_802_0] : Cells) ++ ([.slice A_803_1 n_804_1 c_805_1] : Cells)) 39 :: .cells b_10 (([.int .i64 a_784_0] : Cells) ++ ([.slice A_785_1 n_786_1 c_787_1] : Cells)) 57 :: .sl A_785_1 c_787_1 n_786_1 x_789_1 60 3 :: .sl A_98 c_99 n_100 (iv .u8 r_97) 5 1 :: .cells B_87 (([.int .i64 ((gx l1 (x_64.toNat)).1)] : Cells) ++ (([.int .u64 ((gx l1 (x_64.toNat)).2.1)] : Cells) ++ (([.slice A_82 n_83 c_84] : Cells) ++ ([.bool ((gx l1 (x_64.toNat)).2.2.2)] : Cells)))) 41 :: .cells B_22 (([.int .i64 a_802_0] : Cells) ++ ([.slice A_803_1 n_804_1 c_805_1] : Cells)) 39 :: (T_799 ++ R)) := by have e_ : (([.int .i64 a_802_0] : Cells) ++ ([.slice A_803_1 n_804_1 c_805_1] : Cells)) = (([] : Cells)) ++ ((([.int .i64 a_802_0] : Cells) ++ ([.slice A_803_1 n_804_1 c_805_1] : Cells)) ++ (([] : Cells))) := (by first | rfl | simp only [List.append_assoc, List.append_nil, List.nil_append, List.cons_append]); have h_ : St w w_820 (.cells B_814 (([.int .i64 a_802_0] : Cells) ++ ([.slice A_803_1 n_804_1 c_805_1] : Cells)) 39 :: .cells b_10 (([.int .i64 a_784_0] : Cells) ++ ([.slice A_785_1 n_786_1 c_787_1] : Cells)) 57 :: .sl A_785_1 c_787_1 n_786_1 x_789_1 60 3 :: .sl A_98 c_99 n_100 (iv .u8 r_97) 5 1 :: .cells B_87 (([.int .i64 ((gx l1 (x_64.toNat)).1)] : Cells) ++ (([.int .u64 ((gx l1 (x_64.toNat)).2.1)] : Cells) ++ (([.slice A_82 n_83 c_84] : Cells) ++ ([.bool ((gx l1 (x_64.toNat)).2.2.2)] : Cells)))) 41 :: .cells B_22 ((([] : Cells)) ++ ((([.int .i64 a_802_0] : Cells) ++ ([.slice A_803_1 n_804_1 c_805_1] : Cells)) ++ (([] : Cells)))) 39 :: (T_799 ++ R)) := st_821; rw [← e_] at h_; exact h_
          refine WL.nil ?_
          refine QW.then_n ?_
          refine CW.region ?_
          refine WL.val Wanted.none (Runs.move rfl) ?_
          refine WL.val Wanted.none (Runs.move rfl) ?_
          refine WL.val Wanted.none (Runs.eqb Try.underlying4 rfl rfl rfl) ?_
          refine WL.val Wanted.none (Runs.assign rfl) ?_
          refine WL.nil ?_
          refine QW.blk_n ?_
          refine QW.then_n ?_
          refine CW.seq ?_
          refine CW.region ?_
          refine WL.val Wanted.none (Runs.move rfl) ?_
          have st_822 := (St.pickT (L := [_, _, _, _, _, _]) st_821 [1, 2, 0, 3, 4, 5] (by decide))
          replace st_822 : St w w_820 (.cells b_10 (([.int .i64 a_784_0] : Cells) ++ ([.slice A_785_1 n_786_1 c_787_1] : Cells)) 57 :: .sl A_785_1 c_787_1 n_786_1 x_789_1 60 3 :: .cells B_814 (([.int .i64 a_802_0] : Cells) ++ ([.slice A_803_1 n_804_1 c_805_1] : Cells)) 39 :: .sl A_98 c_99 n_100 (iv .u8 r_97) 5 1 :: .cells B_87 (([.int .i64 ((gx l1 (x_64.toNat)).1)] : Cells) ++ (([.int .u64 ((gx l1 (x_64.toNat)).2.1)] : Cells) ++ (([.slice A_82 n_83 c_84] : Cells) ++ ([.bool ((gx l1 (x_64.toNat)).2.2.2)] : Cells)))) 41 :: .cells B_22 (([.int .i64 a_802_0] : Cells) ++ ([.slice A_803_1 n_804_1 c_805_1] : Cells)) 39 :: (T_799 ++ R)) := st_822
          have st_823 : St w w_820 (.cells b_10 (([.int .i64 a_784_0] : Cells) ++ ([.slice A_785_1 n_786_1 c_787_1] : Cells)) 57 :: .sl A_785_1 c_787_1 n_786_1 x_789_1 60 3 :: (T_799 ++ (.cells B_814 (([.int .i64 a_802_0] : Cells) ++ ([.slice A_803_1 n_804_1 c_805_1] : Cells)) 39 :: .sl A_98 c_99 n_100 (iv .u8 r_97) 5 1 :: .cells B_87 (([.int .i64 ((gx l1 (x_64.toNat)).1)] : Cells) ++ (([.int .u64 ((gx l1 (x_64.toNat)).2.1)] : Cells) ++ (([.slice A_82 n_83 c_84] : Cells) ++ ([.bool ((gx l1 (x_64.toNat)).2.2.2)] : Cells)))) 41 :: .cells B_22 (([.int .i64 a_802_0] : Cells) ++ ([.slice A_803_1 n_804_1 c_805_1] : Cells)) 39 :: R))) := St.hide (A := [_, _]) (B := [_, _, _, _]) (T := T_799) (R := R) st_822
          obtain ⟨a_827_0, l_831_1, l_839, hr_824, H⟩ := H
          refine WL.call Wanted.none ent13 rfl (buffers_Cache_Blocks.calls w w_820 T_799 (.cells B_814 (([.int .i64 a_802_0] : Cells) ++ ([.slice A_803_1 n_804_1 c_805_1] : Cells)) 39 :: .sl A_98 c_99 n_100 (iv .u8 r_97) 5 1 :: .cells B_87 (([.int .i64 ((gx l1 (x_64.toNat)).1)] : Cells) ++ (([.int .u64 ((gx l1 (x_64.toNat)).2.1)] : Cells) ++ (([.slice A_82 n_83 c_84] : Cells) ++ ([.bool ((gx l1 (x_64.toNat)).2.2.2)] : Cells)))) 41 :: .cells B_22 (([.int .i64 a_802_0] : Cells) ++ ([.slice A_803_1 n_804_1 c_805_1] : Cells)) 39 :: R) a_784_0 l_788_1 b_10 A_785_1 n_786_1 c_787_1 x_789_1  st_823 (hn_790_1) (hx_791_1.mono (fun _ h_ => hs_800.1 _ h_)) a_827_0 l_831_1 l_839 hr_824) ?_
          rintro _ w_842 ⟨T_825, A_828_1, n_829_1, c_830_1, x_832_1, A_836, n_837, c_838, hs_826, hn_833_1, hx_834_1, hn_841, rfl, sc_844⟩
          have st_843 : St w w_842 (.cells b_10 (([.int .i64 a_827_0] : Cells) ++ ([.slice A_828_1 n_829_1 c_830_1] : Cells)) 57 :: .sl A_828_1 c_830_1 n_829_1 x_832_1 60 3 :: .sl A_836 c_838 n_837 (iv .u64 l_839) 29 1 :: .cells B_814 (([.int .i64 a_802_0] : Cells) ++ ([.slice A_803_1 n_804_1 c_805_1] : Cells)) 39 :: .sl A_98 c_99 n_100 (iv .u8 r_97) 5 1 :: .cells B_87 (([.int .i64 ((gx l1 (x_64.toNat)).1)] : Cells) ++ (([.int .u64 ((gx l1 (x_64.toNat)).2.1)] : Cells) ++ (([.slice A_82 n_83 c_84] : Cells) ++ ([.bool ((gx l1 (x_64.toNat)).2.2.2)] : Cells)))) 41 :: .cells B_22 (([.int .i64 a_802_0] : Cells) ++ ([.slice A_803_1 n_804_1 c_805_1] : Cells)) 39 :: (T_825 ++ R)) := St.unhide (A := [_, _, _]) (B := [_, _, _, _]) (T := T_825) (R := R) sc_844
          refine ⟨_, rfl, ?_⟩
          refine WL.val Wanted.none (Runs.assign rfl) ?_
          refine WL.nil ?_
          refine QW.then_n ?_
          refine CW.seq ?_
          refine CW.seq ?_
          refine CW.region ?_
          refine WL.val Wanted.none (Runs.move rfl) ?_
          refine WL.val Wanted.none (Runs.not rfl rfl) ?_
          refine WL.val Wanted.none (Runs.move rfl) ?_
          obtain ⟨c_845, H⟩ := H
          have h_846 : (!(a_793 == a_810)) = false := (not_f (beq_iff_eq.mpr (Decidable.not_not.mp c_845)))
          refine WL.on ?_ ?_; exact Wanted.guard (dj := 169) (by rfl) (evb (by rfl) h_846) (by rfl)
          refine WL.val Wanted.none (Runs.move rfl) ?_
          refine WL.on ?_ ?_; exact Wanted.guard (dj := 169) (by rfl) (evb (by rfl) h_846) (by rfl)
          refine WL.val Wanted.none (Runs.len_sl Try.underlying33 rfl (by rw [hn_841])) ?_
          refine WL.on ?_ ?_; exact Wanted.guard (dj := 169) (by rfl) (evb (by rfl) h_846) (by rfl)
          refine WL.val Wanted.none (Runs.fieldAddr (off := 1) (p := 1) fld39_1 rfl rfl rfl) ?_
          refine WL.on ?_ ?_; exact Wanted.guard (dj := 169) (by rfl) (evb (by rfl) h_846) (by rfl)
          refine WL.val Wanted.none (Runs.load nagg37 rfl (st_843.cell (k := 6) rfl (part_one (u := .slice A_803_1 n_804_1 c_805_1) (pre := (([.int .i64 a_802_0] : Cells))) (post := (([] : Cells))) (by first | rfl | simp only [List.append_assoc, List.append_nil, List.nil_append, List.cons_append]) (by first | rfl | simp only [List.length_append, List.length_cons, List.length_nil, iv_length])))) ?_
          refine WL.on ?_ ?_; exact Wanted.guard (dj := 169) (by rfl) (evb (by rfl) h_846) (by rfl)
          refine WL.val Wanted.none (Runs.len_sl Try.underlying37 rfl (by rw [hb_808_1.1])) ?_
          refine WL.on ?_ ?_; exact Wanted.guard (dj := 169) (by rfl) (evb (by rfl) h_846) (by rfl)
          refine WL.val Wanted.none (Runs.neq rfl rfl rfl) ?_
          refine WL.val Wanted.none (Runs.pick_f (evb rfl h_846) rfl) ?_
          refine WL.nil ?_
          refine QW.then_n ?_
          obtain ⟨c_847, H⟩ := H
          have h_848 : ((l_839.length : Int) != (l_806_1.length : Int)) = false := (bne_eq_false_iff_eq.mpr (Decidable.not_not.mp c_847))
          refine CW.cf rfl h_848 ?_
          refine CW.skip ?_
          refine QW.then_n ?_
          refine CW.seq ?_
          refine CW.region ?_
          refine WL.val Wanted.none (Runs.assign rfl) ?_
          refine WL.nil ?_
          refine QW.then_n ?_
          refine CW.block ?_
          obtain ⟨k_849, H⟩ := H
          refine CW.sub [(1, .slice A1 n1 c1), (4, .bool b_63), (6, .pointer (some ⟨b_10, 0, none⟩)), (7, .pointer (some ⟨B_22, 0, none⟩)), (8, .int .i64 x_64), (38, .int .i64 x_64), (39, .slice A1 n1 c1), (40, .int .i64 (l1.length : Int)), (41, .bool (decide (x_64 < (l1.length : Int)))), (42, .bool (decide (x_64 < (l1.length : Int)))), (43, .int .i64 x_64), (44, .bool (decide (x_64 < 60))), (45, .bool (decide (x_64 < 60))), (48, .slice A1 n1 c1), (49, .int .i64 x_64), (50, .pointer (some (a_77.add ((x_64.toNat) * 4)))), (51, .agg (([.int .i64 ((gx l1 (x_64.toNat)).1)] : Cells) ++ (([.int .u64 ((gx l1 (x_64.toNat)).2.1)] : Cells) ++ (([.slice A_82 n_83 c_84] : Cells) ++ ([.bool ((gx l1 (x_64.toNat)).2.2.2)] : Cells)))).toArray), (9, .pointer (some ⟨B_87, 0, none⟩)), (52, .pointer (some ⟨B_87, 2, none⟩)), (53, .slice A_82 n_83 c_84), (54, .pointer (some ⟨B_87, 3, none⟩)), (55, .bool ((gx l1 (x_64.toNat)).2.2.2)), (56, .slice A_98 n_100 c_99), (10, .slice A_98 n_100 c_99), (11, .bool (a_793 == a_810)), (57, .pointer (some ⟨B_87, 0, none⟩)), (58, .int .i64 ((gx l1 (x_64.toNat)).1)), (59, .int .i64 (bits .and .i64 ((gx l1 (x_64.toNat)).1) 7)), (66, .bool ((bits .and .i64 ((gx l1 (x_64.toNat)).1) 7) == 0)), (65, .bool ((bits .and .i64 ((gx l1 (x_64.toNat)).1) 7) == 1)), (67, .bool ((bits .and .i64 ((gx l1 (x_64.toNat)).1) 7) == 1)), (87, .bool ((bits .and .i64 ((gx l1 (x_64.toNat)).1) 7) == 2)), (86, .bool ((bits .and .i64 ((gx l1 (x_64.toNat)).1) 7) == 3)), (88, .bool ((bits .and .i64 ((gx l1 (x_64.toNat)).1) 7) == 3)), (115, .bool ((bits .and .i64 ((gx l1 (x_64.toNat)).1) 7) == 4)), (114, .bool ((bits .and .i64 ((gx l1 (x_64.toNat)).1) 7) == 4)), (132, .bool ((bits .and .i64 ((gx l1 (x_64.toNat)).1) 7) == 5)), (131, .bool ((bits .and .i64 ((gx l1 (x_64.toNat)).1) 7) == 5)), (149, .bool ((bits .and .i64 ((gx l1 (x_64.toNat)).1) 7) == 6)), (148, .bool ((bits .and .i64 ((gx l1 (x_64.toNat)).1) 7) == 6)), (150, .pointer (some ⟨b_10, 0, none⟩)), (151, .pointer (some ⟨B_87, 1, none⟩)), (152, .int .u64 ((gx l1 (x_64.toNat)).2.1)), (153, .bool a_793), (26, .bool a_793), (155, .agg (([.int .i64 x_56] : Cells) ++ ([.slice A_57 n_58 c_59] : Cells)).toArray), (156, .pointer (some ⟨B_87, 1, none⟩)), (157, .int .u64 ((gx l1 (x_64.toNat)).2.1)), (158, .tuple #[.agg (([.int .i64 a_802_0] : Cells) ++ ([.slice A_803_1 n_804_1 c_805_1] : Cells)).toArray, .bool a_810]), (154, .tuple #[.agg (([.int .i64 a_802_0] : Cells) ++ ([.slice A_803_1 n_804_1 c_805_1] : Cells)).toArray, .bool a_810]), (159, .agg (([.int .i64 a_802_0] : Cells) ++ ([.slice A_803_1 n_804_1 c_805_1] : Cells)).toArray), (160, .bool a_810), (27, .pointer (some ⟨B_814, 0, none⟩)), (28, .bool a_810), (161, .agg (([.int .i64 a_802_0] : Cells) ++ ([.slice A_803_1 n_804_1 c_805_1] : Cells)).toArray), (162, .bool a_793), (163, .bool a_810), (164, .bool (a_793 == a_810)), (165, .pointer (some ⟨b_10, 0, none⟩)), (166, .slice A_836 n_837 c_838), (29, .slice A_836 n_837 c_838), (167, .bool (a_793 == a_810)), (168, .bool (!(a_793 == a_810))), (169, .bool (!(a_793 == a_810))), (170, .slice A_836 n_837 c_838), (171, .int .i64 (l_839.length : Int)), (172, .pointer (some ⟨B_22, 1, none⟩)), (173, .slice A_803_1 n_804_1 c_805_1), (174, .int .i64 (l_806_1.length : Int)), (175, .bool ((l_839.length : Int) != (l_806_1.length : Int))), (176, .bool ((l_839.length : Int) != (l_806_1.length : Int))), (30, .int .i64 0)] (by repeat' constructor) ?_
          refine CW.loop (fun kL8 l_ w_ => ∃ (T_850 : Pool) (b_852 : Bool) (x_853 : Int), l_ = [(1, .slice A1 n1 c1), (4, .bool b_852), (6, .pointer (some ⟨b_10, 0, none⟩)), (7, .pointer (some ⟨B_22, 0, none⟩)), (8, .int .i64 x_64), (38, .int .i64 x_64), (39, .slice A1 n1 c1), (40, .int .i64 (l1.length : Int)), (41, .bool (decide (x_64 < (l1.length : Int)))), (42, .bool (decide (x_64 < (l1.length : Int)))), (43, .int .i64 x_64), (44, .bool (decide (x_64 < 60))), (45, .bool (decide (x_64 < 60))), (48, .slice A1 n1 c1), (49, .int .i64 x_64), (50, .pointer (some (a_77.add ((x_64.toNat) * 4)))), (51, .agg (([.int .i64 ((gx l1 (x_64.toNat)).1)] : Cells) ++ (([.int .u64 ((gx l1 (x_64.toNat)).2.1)] : Cells) ++ (([.slice A_82 n_83 c_84] : Cells) ++ ([.bool ((gx l1 (x_64.toNat)).2.2.2)] : Cells)))).toArray), (9, .pointer (some ⟨B_87, 0, none⟩)), (52, .pointer (some ⟨B_87, 2, none⟩)), (53, .slice A_82 n_83 c_84), (54, .pointer (some ⟨B_87, 3, none⟩)), (55, .bool ((gx l1 (x_64.toNat)).2.2.2)), (56, .slice A_98 n_100 c_99), (10, .slice A_98 n_100 c_99), (11, .bool (a_793 == a_810)), (57, .pointer (some ⟨B_87, 0, none⟩)), (58, .int .i64 ((gx l1 (x_64.toNat)).1)), (59, .int .i64 (bits .and .i64 ((gx l1 (x_64.toNat)).1) 7)), (66, .bool ((bits .and .i64 ((gx l1 (x_64.toNat)).1) 7) == 0)), (65, .bool ((bits .and .i64 ((gx l1 (x_64.toNat)).1) 7) == 1)), (67, .bool ((bits .and .i64 ((gx l1 (x_64.toNat)).1) 7) == 1)), (87, .bool ((bits .and .i64 ((gx l1 (x_64.toNat)).1) 7) == 2)), (86, .bool ((bits .and .i64 ((gx l1 (x_64.toNat)).1) 7) == 3)), (88, .bool ((bits .and .i64 ((gx l1 (x_64.toNat)).1) 7) == 3)), (115, .bool ((bits .and .i64 ((gx l1 (x_64.toNat)).1) 7) == 4)), (114, .bool ((bits .and .i64 ((gx l1 (x_64.toNat)).1) 7) == 4)), (132, .bool ((bits .and .i64 ((gx l1 (x_64.toNat)).1) 7) == 5)), (131, .bool ((bits .and .i64 ((gx l1 (x_64.toNat)).1) 7) == 5)), (149, .bool ((bits .and .i64 ((gx l1 (x_64.toNat)).1) 7) == 6)), (148, .bool ((bits .and .i64 ((gx l1 (x_64.toNat)).1) 7) == 6)), (150, .pointer (some ⟨b_10, 0, none⟩)), (151, .pointer (some ⟨B_87, 1, none⟩)), (152, .int .u64 ((gx l1 (x_64.toNat)).2.1)), (153, .bool a_793), (26, .bool a_793), (155, .agg (([.int .i64 x_56] : Cells) ++ ([.slice A_57 n_58 c_59] : Cells)).toArray), (156, .pointer (some ⟨B_87, 1, none⟩)), (157, .int .u64 ((gx l1 (x_64.toNat)).2.1)), (158, .tuple #[.agg (([.int .i64 a_802_0] : Cells) ++ ([.slice A_803_1 n_804_1 c_805_1] : Cells)).toArray, .bool a_810]), (154, .tuple #[.agg (([.int .i64 a_802_0] : Cells) ++ ([.slice A_803_1 n_804_1 c_805_1] : Cells)).toArray, .bool a_810]), (159, .agg (([.int .i64 a_802_0] : Cells) ++ ([.slice A_803_1 n_804_1 c_805_1] : Cells)).toArray), (160, .bool a_810), (27, .pointer (some ⟨B_814, 0, none⟩)), (28, .bool a_810), (161, .agg (([.int .i64 a_802_0] : Cells) ++ ([.slice A_803_1 n_804_1 c_805_1] : Cells)).toArray), (162, .bool a_793), (163, .bool a_810), (164, .bool (a_793 == a_810)), (165, .pointer (some ⟨b_10, 0, none⟩)), (166, .slice A_836 n_837 c_838), (29, .slice A_836 n_837 c_838), (167, .bool (a_793 == a_810)), (168, .bool (!(a_793 == a_810))), (169, .bool (!(a_793 == a_810))), (170, .slice A_836 n_837 c_838), (171, .int .i64 (l_839.length : Int)), (172, .pointer (some ⟨B_22, 1, none⟩)), (173, .slice A_803_1 n_804_1 c_805_1), (174, .int .i64 (l_806_1.length : Int)), (175, .bool ((l_839.length : Int) != (l_806_1.length : Int))), (176, .bool ((l_839.length : Int) != (l_806_1.length : Int))), (30, .int .i64 x_853)] ∧ reliquarylaw15_BuffersPlays.L8 x_64 a_802_0 l_806_1 a_827_0 l_831_1 l_839 (reliquarylaw15_BuffersPlays.L1 l1 kL1) kL8 b_852 x_853 ∧ (Pl T_825 T_850) ∧ St w w_ (.cells b_10 (([.int .i64 a_827_0] : Cells) ++ ([.slice A_828_1 n_829_1 c_830_1] : Cells)) 57 :: .sl A_828_1 c_830_1 n_829_1 x_832_1 60 3 :: .sl A_836 c_838 n_837 (iv .u64 l_839) 29 1 :: .cells B_814 (([.int .i64 a_802_0] : Cells) ++ ([.slice A_803_1 n_804_1 c_805_1] : Cells)) 39 :: .sl A_98 c_99 n_100 (iv .u8 r_97) 5 1 :: .cells B_87 (([.int .i64 ((gx l1 (x_64.toNat)).1)] : Cells) ++ (([.int .u64 ((gx l1 (x_64.toNat)).2.1)] : Cells) ++ (([.slice A_82 n_83 c_84] : Cells) ++ ([.bool ((gx l1 (x_64.toNat)).2.2.2)] : Cells)))) 41 :: .cells B_22 (([.int .i64 a_802_0] : Cells) ++ ([.slice A_803_1 n_804_1 c_805_1] : Cells)) 39 :: (T_850 ++ R))) (k := k_849) ⟨T_825, b_63, 0, rfl, H, Pl.refl, st_843⟩ (fun _ _ h => by obtain ⟨_, _, _, _, h, _⟩ := h; exact h.elim) ?_
          rintro kL8 l_856 w_854 ⟨T_850, b_852, x_853, rfl, H, hs_851, st_855⟩
          refine CW.seq ?_
          refine CW.seq ?_
          refine CW.region ?_
          refine WL.val Wanted.none (Runs.move rfl) ?_
          refine WL.val Wanted.none (Runs.move rfl) ?_
          refine WL.val Wanted.none (Runs.len_sl Try.underlying33 rfl (by rw [hn_841])) ?_
          refine WL.val Wanted.none (Runs.lss rfl rfl rfl) ?_
          refine WL.nil ?_
          refine QW.then_n ?_
          rcases H with ⟨c_857, H⟩ | ⟨c_857, H⟩
          ·have h_858 : (decide (x_853 < (l_839.length : Int))) = true := (decide_eq_true c_857)
           refine CW.ct rfl h_858 ?_
           refine CW.skip ?_
           refine QW.then_n ?_
           refine CW.seq ?_
           refine CW.block ?_
           refine CW.seq ?_
           refine CW.region_qa wide (by kernel_rfl) st_855 ?_
           refine HL.val Wanted.none (fun wq sq => (Runs.move rfl)) ?_
           refine HL.val Wanted.none (fun wq sq => (Runs.move rfl)) ?_
           obtain ⟨⟨p_859, q_860⟩, H⟩ := H
           obtain ⟨a_861, e_862⟩ := (st_855.src_sl (k := 2) rfl).addr_iv (x_853.toNat) (by omega)
           refine HL.val Wanted.none (fun wq sq => (Runs.indexAddr Try.underlying33 cells29 (by decide) rfl e_862 rfl p_859 (by rw [hn_841]; exact q_860) (o := (x_853).toNat) (by first | rfl | omega))) ?_
           refine HL.val Wanted.none (fun wq sq => (Runs.load nagg29 rfl ((sq.src_sl (k := 2) rfl).cell_iv e_862 (by omega)))) ?_
           refine HL.val Wanted.none (fun wq sq => (Runs.fieldAddr (off := 1) (p := 1) fld39_1 rfl rfl rfl)) ?_
           refine HL.val Wanted.none (fun wq sq => (Runs.load nagg37 rfl (sq.cell (k := 6) rfl (part_one (u := .slice A_803_1 n_804_1 c_805_1) (pre := (([.int .i64 a_802_0] : Cells))) (post := (([] : Cells))) (by first | rfl | simp only [List.append_assoc, List.append_nil, List.nil_append, List.cons_append]) (by first | rfl | simp only [List.length_append, List.length_cons, List.length_nil, iv_length]))))) ?_
           refine HL.val Wanted.none (fun wq sq => (Runs.move rfl)) ?_
           obtain ⟨⟨p_863, q_864⟩, H⟩ := H
           obtain ⟨x_865, hs_866, hr_867⟩ := hb_808_1.2.2
           obtain ⟨a_868, e_869, ms_870, hc_871, hm_872⟩ := el_get (i := (x_853).toNat) ((hs_866.at st_855 (mem_T (A := [_, _, _, _, _, _, _]) (fun _ h_ => hs_851.1 _ (hs_826.1 _ h_))))) (hr_867.mono (fun _ h_ => hs_851.1 _ (hs_826.1 _ h_))) (fz51 w) (by decide) (by omega)
           obtain em_873 := inv51 hm_872
           replace em_873 : ms_870 = ([.int .u64 ((gx l_806_1 (x_853.toNat)).1)] : Cells) ++ (([.string ((gx l_806_1 (x_853.toNat)).2.1)] : Cells) ++ ([.int .i64 ((gx l_806_1 (x_853.toNat)).2.2)] : Cells)) := em_873
           subst em_873
           refine HL.val Wanted.none (fun wq sq => (Runs.indexAddr Try.underlying37 cells51 (by decide) rfl e_869 rfl p_863 (by rw [show n_804_1 = l_806_1.length from hb_808_1.1]; exact q_864) (o := (x_853.toNat) * 3) (by first | rfl | omega))) ?_
           refine HL.val Wanted.none (fun wq sq => (Runs.fieldAddrB (off := 0) fld51_0 rfl rfl rfl)) ?_
           refine HL.val Wanted.none (fun wq sq => (Runs.load nagg29 rfl (Src.cellAt (j := 0) (Src.cut ((hs_866.at sq (mem_T (A := [_, _, _, _, _, _, _]) (fun _ h_ => hs_851.1 _ (hs_826.1 _ h_))))) e_869 hc_871) rfl))) ?_
           refine HL.val Wanted.none (fun wq sq => (Runs.neq rfl rfl rfl)) ?_
           refine HL.nil (fun w_874 st_875 => ?_)
           refine WL.nil ?_
           refine QW.then_n ?_
           obtain ⟨c_876, H⟩ := H
           have h_877 : ((gn l_839 (x_853.toNat)) != ((gx l_806_1 (x_853.toNat)).1)) = false := (bne_eq_false_iff_eq.mpr (Decidable.not_not.mp c_876))
           refine CW.cf rfl h_877 ?_
           refine CW.skip ?_
           refine QW.blk_n ?_
           refine QW.then_n ?_
           refine CW.region ?_
           refine WL.val Wanted.none (Runs.move rfl) ?_
           refine WL.val Wanted.none (Runs.add rfl rfl rfl) ?_
           refine WL.val Wanted.none (Runs.assign rfl) ?_
           refine WL.nil ?_
           exact QW.at _ (by repeat' constructor) ⟨T_850, b_852, IntKind.i64.wrap (x_853 + 1), rfl, H, hs_851, st_875⟩
          ·have h_858 : (decide (x_853 < (l_839.length : Int))) = false := (decide_eq_false c_857)
           refine CW.cf rfl h_858 ?_
           refine CW.exit ?_
           refine QW.then_x ?_
           refine QW.then_x ?_
           refine QW.blk_x ?_
           refine QW.blk_n ?_
           refine QW.then_n ?_
           refine CW.region ?_
           refine WL.val Wanted.none (Runs.move rfl) ?_
           refine WL.val Wanted.none (Runs.add rfl rfl rfl) ?_
           refine WL.val Wanted.none (Runs.assign rfl) ?_
           refine WL.nil ?_
           have st_855' := (St.pickT (L := [_, _, _, _, _, _, _]) st_855 [6, 0, 1] (by decide))
           exact QW.at _ (by repeat' constructor) ⟨T_850, A_828_1, c_830_1, n_829_1, x_832_1, l_831_1, a_802_0, A_803_1, n_804_1, c_805_1, l_806_1, a_827_0, b_852, IntKind.i64.wrap (x_64 + 1), rfl, H, ((((hs_48.trans hs_783).trans hs_800).trans hs_826).trans hs_851), hn_833_1, (hx_834_1.mono (fun _ h_ => hs_851.1 _ h_)), (hb_808_1.mono (fun _ h_ => hs_851.1 _ (hs_826.1 _ h_)) (fun _ h_ => hs_851.1 _ (hs_826.1 _ h_))), st_855'⟩
         ·have h_778 : ((bits .and .i64 ((gx l1 (x_64.toNat)).1) 7) == 6) = false := (beq_eq_false_iff_ne.mpr c_777)
          refine CW.cf rfl h_778 ?_
          refine CW.seq ?_
          refine CW.seq ?_
          refine CW.region ?_
          refine WL.val Wanted.none (Runs.fieldAddr (off := 3) (p := 3) fld41_3 rfl rfl rfl) ?_
          refine WL.val Wanted.none (Runs.load nagg4 rfl (st_95.cell (k := 1) rfl (part_one (u := .bool ((gx l1 (x_64.toNat)).2.2.2)) (pre := (([.int .i64 ((gx l1 (x_64.toNat)).1)] : Cells) ++ (([.int .u64 ((gx l1 (x_64.toNat)).2.1)] : Cells) ++ ([.slice A_82 n_83 c_84] : Cells)))) (post := (([] : Cells))) (by first | rfl | simp only [List.append_assoc, List.append_nil, List.nil_append, List.cons_append]) (by first | rfl | simp only [List.length_append, List.length_cons, List.length_nil, iv_length])))) ?_
          refine WL.nil ?_
          refine QW.then_n ?_
          rcases H with ⟨c_878, H⟩ | ⟨c_878, H⟩
          ·have h_879 : ((gx l1 (x_64.toNat)).2.2.2) = true := c_878
           refine CW.ct rfl h_879 ?_
           refine CW.seq ?_
           refine CW.region ?_
           refine WL.val Wanted.none (Runs.move rfl) ?_
           have st_880 := (St.pickT (L := [_, _, _, _, _]) st_95 [3, 4, 0, 1, 2] (by decide))
           replace st_880 : St w w_94 (.cells b_10 (([.int .i64 x_62] : Cells) ++ ([.slice A_53 n_55 c_54] : Cells)) 57 :: .sl A_53 c_54 n_55 x_51 60 3 :: .sl A_98 c_99 n_100 (iv .u8 r_97) 5 1 :: .cells B_87 (([.int .i64 ((gx l1 (x_64.toNat)).1)] : Cells) ++ (([.int .u64 ((gx l1 (x_64.toNat)).2.1)] : Cells) ++ (([.slice A_82 n_83 c_84] : Cells) ++ ([.bool ((gx l1 (x_64.toNat)).2.2.2)] : Cells)))) 41 :: .cells B_22 (([.int .i64 x_56] : Cells) ++ ([.slice A_57 n_58 c_59] : Cells)) 39 :: (T_47 ++ R)) := st_880
           have st_881 : St w w_94 (.cells b_10 (([.int .i64 x_62] : Cells) ++ ([.slice A_53 n_55 c_54] : Cells)) 57 :: .sl A_53 c_54 n_55 x_51 60 3 :: (T_47 ++ (.sl A_98 c_99 n_100 (iv .u8 r_97) 5 1 :: .cells B_87 (([.int .i64 ((gx l1 (x_64.toNat)).1)] : Cells) ++ (([.int .u64 ((gx l1 (x_64.toNat)).2.1)] : Cells) ++ (([.slice A_82 n_83 c_84] : Cells) ++ ([.bool ((gx l1 (x_64.toNat)).2.2.2)] : Cells)))) 41 :: .cells B_22 (([.int .i64 x_56] : Cells) ++ ([.slice A_57 n_58 c_59] : Cells)) 39 :: R))) := St.hide (A := [_, _]) (B := [_, _, _]) (T := T_47) (R := R) st_880
           obtain ⟨a_885_0, l_889_1, hr_882, H⟩ := H
           refine WL.call Wanted.none ent21 rfl (buffers_Cache_Clear.calls w w_94 T_47 (.sl A_98 c_99 n_100 (iv .u8 r_97) 5 1 :: .cells B_87 (([.int .i64 ((gx l1 (x_64.toNat)).1)] : Cells) ++ (([.int .u64 ((gx l1 (x_64.toNat)).2.1)] : Cells) ++ (([.slice A_82 n_83 c_84] : Cells) ++ ([.bool ((gx l1 (x_64.toNat)).2.2.2)] : Cells)))) 41 :: .cells B_22 (([.int .i64 x_56] : Cells) ++ ([.slice A_57 n_58 c_59] : Cells)) 39 :: R) x_62 l_49 b_10 A_53 n_55 c_54 x_51  st_881 (hn_50) hx_52 a_885_0 l_889_1 hr_882) ?_
           rintro _ w_893 ⟨T_883, A_886_1, n_887_1, c_888_1, x_890_1, hs_884, hn_891_1, hx_892_1, rfl, sc_895⟩
           have st_894 : St w w_893 (.cells b_10 (([.int .i64 a_885_0] : Cells) ++ ([.slice A_886_1 n_887_1 c_888_1] : Cells)) 57 :: .sl A_886_1 c_888_1 n_887_1 x_890_1 60 3 :: .sl A_98 c_99 n_100 (iv .u8 r_97) 5 1 :: .cells B_87 (([.int .i64 ((gx l1 (x_64.toNat)).1)] : Cells) ++ (([.int .u64 ((gx l1 (x_64.toNat)).2.1)] : Cells) ++ (([.slice A_82 n_83 c_84] : Cells) ++ ([.bool ((gx l1 (x_64.toNat)).2.2.2)] : Cells)))) 41 :: .cells B_22 (([.int .i64 x_56] : Cells) ++ ([.slice A_57 n_58 c_59] : Cells)) 39 :: (T_883 ++ R)) := St.unhide (A := [_, _]) (B := [_, _, _]) (T := T_883) (R := R) sc_895
           refine ⟨_, rfl, ?_⟩
           refine WL.nil ?_
           refine QW.then_n ?_
           refine CW.region ?_
           refine WL.val Wanted.none (Runs.fieldAddr (off := 1) (p := 1) fld39_1 rfl rfl rfl) ?_
           refine WL.store_one (i := 4) (u0 := .slice A_57 n_58 c_59) (pre := (([.int .i64 x_56] : Cells))) (post := (([] : Cells))) st_894 rfl cells37 (by first | rfl | simp only [List.append_assoc, List.append_nil, List.nil_append, List.cons_append]) (by first | rfl | simp only [List.length_append, List.length_cons, List.length_nil, iv_length]) rfl rfl rfl ?_
           intro w_896 st_897
           replace st_897 : St w w_896 (.cells b_10 (([.int .i64 a_885_0] : Cells) ++ ([.slice A_886_1 n_887_1 c_888_1] : Cells)) 57 :: .sl A_886_1 c_888_1 n_887_1 x_890_1 60 3 :: .sl A_98 c_99 n_100 (iv .u8 r_97) 5 1 :: .cells B_87 (([.int .i64 ((gx l1 (x_64.toNat)).1)] : Cells) ++ (([.int .u64 ((gx l1 (x_64.toNat)).2.1)] : Cells) ++ (([.slice A_82 n_83 c_84] : Cells) ++ ([.bool ((gx l1 (x_64.toNat)).2.2.2)] : Cells)))) 41 :: .cells B_22 (([.int .i64 x_56] : Cells) ++ ([.slice none 0 0] : Cells)) 39 :: (T_883 ++ R)) := by have e_ : (([.int .i64 x_56] : Cells) ++ ([.slice none 0 0] : Cells)) = (([.int .i64 x_56] : Cells)) ++ ((([.slice none 0 0] : Cells)) ++ (([] : Cells))) := (by first | rfl | simp only [List.append_assoc, List.append_nil, List.nil_append, List.cons_append]); have h_ : St w w_896 (.cells b_10 (([.int .i64 a_885_0] : Cells) ++ ([.slice A_886_1 n_887_1 c_888_1] : Cells)) 57 :: .sl A_886_1 c_888_1 n_887_1 x_890_1 60 3 :: .sl A_98 c_99 n_100 (iv .u8 r_97) 5 1 :: .cells B_87 (([.int .i64 ((gx l1 (x_64.toNat)).1)] : Cells) ++ (([.int .u64 ((gx l1 (x_64.toNat)).2.1)] : Cells) ++ (([.slice A_82 n_83 c_84] : Cells) ++ ([.bool ((gx l1 (x_64.toNat)).2.2.2)] : Cells)))) 41 :: .cells B_22 ((([.int .i64 x_56] : Cells)) ++ ((([.slice none 0 0] : Cells)) ++ (([] : Cells)))) 39 :: (T_883 ++ R)) := st_897; rw [← e_] at h_; exact h_
           refine WL.nil ?_
           refine QW.then_n ?_
           refine CW.region ?_
           refine WL.val Wanted.none (Runs.assign rfl) ?_
           refine WL.nil ?_
           refine QW.blk_n ?_
           refine QW.then_n ?_
           refine CW.seq ?_
           refine CW.region ?_
           refine WL.val Wanted.none (Runs.move rfl) ?_
           have st_898 : St w w_896 (.cells b_10 (([.int .i64 a_885_0] : Cells) ++ ([.slice A_886_1 n_887_1 c_888_1] : Cells)) 57 :: .sl A_886_1 c_888_1 n_887_1 x_890_1 60 3 :: (T_883 ++ (.sl A_98 c_99 n_100 (iv .u8 r_97) 5 1 :: .cells B_87 (([.int .i64 ((gx l1 (x_64.toNat)).1)] : Cells) ++ (([.int .u64 ((gx l1 (x_64.toNat)).2.1)] : Cells) ++ (([.slice A_82 n_83 c_84] : Cells) ++ ([.bool ((gx l1 (x_64.toNat)).2.2.2)] : Cells)))) 41 :: .cells B_22 (([.int .i64 x_56] : Cells) ++ ([.slice none 0 0] : Cells)) 39 :: R))) := St.hide (A := [_, _]) (B := [_, _, _]) (T := T_883) (R := R) st_897
           obtain ⟨a_902_0, l_906_1, l_914, hr_899, H⟩ := H
           refine WL.call Wanted.none ent13 rfl (buffers_Cache_Blocks.calls w w_896 T_883 (.sl A_98 c_99 n_100 (iv .u8 r_97) 5 1 :: .cells B_87 (([.int .i64 ((gx l1 (x_64.toNat)).1)] : Cells) ++ (([.int .u64 ((gx l1 (x_64.toNat)).2.1)] : Cells) ++ (([.slice A_82 n_83 c_84] : Cells) ++ ([.bool ((gx l1 (x_64.toNat)).2.2.2)] : Cells)))) 41 :: .cells B_22 (([.int .i64 x_56] : Cells) ++ ([.slice none 0 0] : Cells)) 39 :: R) a_885_0 l_889_1 b_10 A_886_1 n_887_1 c_888_1 x_890_1  st_898 (hn_891_1) hx_892_1 a_902_0 l_906_1 l_914 hr_899) ?_
           rintro _ w_917 ⟨T_900, A_903_1, n_904_1, c_905_1, x_907_1, A_911, n_912, c_913, hs_901, hn_908_1, hx_909_1, hn_916, rfl, sc_919⟩
           have st_918 : St w w_917 (.cells b_10 (([.int .i64 a_902_0] : Cells) ++ ([.slice A_903_1 n_904_1 c_905_1] : Cells)) 57 :: .sl A_903_1 c_905_1 n_904_1 x_907_1 60 3 :: .sl A_911 c_913 n_912 (iv .u64 l_914) 29 1 :: .sl A_98 c_99 n_100 (iv .u8 r_97) 5 1 :: .cells B_87 (([.int .i64 ((gx l1 (x_64.toNat)).1)] : Cells) ++ (([.int .u64 ((gx l1 (x_64.toNat)).2.1)] : Cells) ++ (([.slice A_82 n_83 c_84] : Cells) ++ ([.bool ((gx l1 (x_64.toNat)).2.2.2)] : Cells)))) 41 :: .cells B_22 (([.int .i64 x_56] : Cells) ++ ([.slice none 0 0] : Cells)) 39 :: (T_900 ++ R)) := St.unhide (A := [_, _, _]) (B := [_, _, _]) (T := T_900) (R := R) sc_919
           refine ⟨_, rfl, ?_⟩
           refine WL.val Wanted.none (Runs.assign rfl) ?_
           refine WL.nil ?_
           refine QW.then_n ?_
           refine CW.seq ?_
           refine CW.seq ?_
           refine CW.region ?_
           refine WL.val Wanted.none (Runs.move rfl) ?_
           refine WL.val Wanted.none (Runs.not rfl rfl) ?_
           refine WL.val Wanted.none (Runs.move rfl) ?_
           refine WL.on ?_ ?_; exact Wanted.guard (dj := 169) (by rfl) (by rfl) (by rfl)
           refine WL.val Wanted.none (Runs.move rfl) ?_
           refine WL.on ?_ ?_; exact Wanted.guard (dj := 169) (by rfl) (by rfl) (by rfl)
           refine WL.val Wanted.none (Runs.len_sl Try.underlying33 rfl (by rw [hn_916])) ?_
           refine WL.on ?_ ?_; exact Wanted.guard (dj := 169) (by rfl) (by rfl) (by rfl)
           refine WL.val Wanted.none (Runs.fieldAddr (off := 1) (p := 1) fld39_1 rfl rfl rfl) ?_
           refine WL.on ?_ ?_; exact Wanted.guard (dj := 169) (by rfl) (by rfl) (by rfl)
           refine WL.val Wanted.none (Runs.load nagg37 rfl (st_918.cell (k := 5) rfl (part_one (u := .slice none 0 0) (pre := (([.int .i64 x_56] : Cells))) (post := (([] : Cells))) (by first | rfl | simp only [List.append_assoc, List.append_nil, List.nil_append, List.cons_append]) (by first | rfl | simp only [List.length_append, List.length_cons, List.length_nil, iv_length])))) ?_
           refine WL.on ?_ ?_; exact Wanted.guard (dj := 169) (by rfl) (by rfl) (by rfl)
           refine WL.val Wanted.none (Runs.len_sl Try.underlying37 rfl rfl) ?_
           refine WL.on ?_ ?_; exact Wanted.guard (dj := 169) (by rfl) (by rfl) (by rfl)
           refine WL.val Wanted.none (Runs.neq rfl rfl rfl) ?_
           refine WL.val Wanted.none (Runs.pick_f rfl rfl) ?_
           refine WL.nil ?_
           refine QW.then_n ?_
           obtain ⟨c_920, H⟩ := H
           have h_921 : ((l_914.length : Int) != 0) = false := (bne_eq_false_iff_eq.mpr (Decidable.not_not.mp c_920))
           refine CW.cf rfl h_921 ?_
           refine CW.skip ?_
           refine QW.then_n ?_
           refine CW.seq ?_
           refine CW.region ?_
           refine WL.val Wanted.none (Runs.assign rfl) ?_
           refine WL.nil ?_
           refine QW.then_n ?_
           refine CW.block ?_
           obtain ⟨k_922, H⟩ := H
           refine CW.sub [(1, .slice A1 n1 c1), (4, .bool b_63), (6, .pointer (some ⟨b_10, 0, none⟩)), (7, .pointer (some ⟨B_22, 0, none⟩)), (8, .int .i64 x_64), (38, .int .i64 x_64), (39, .slice A1 n1 c1), (40, .int .i64 (l1.length : Int)), (41, .bool (decide (x_64 < (l1.length : Int)))), (42, .bool (decide (x_64 < (l1.length : Int)))), (43, .int .i64 x_64), (44, .bool (decide (x_64 < 60))), (45, .bool (decide (x_64 < 60))), (48, .slice A1 n1 c1), (49, .int .i64 x_64), (50, .pointer (some (a_77.add ((x_64.toNat) * 4)))), (51, .agg (([.int .i64 ((gx l1 (x_64.toNat)).1)] : Cells) ++ (([.int .u64 ((gx l1 (x_64.toNat)).2.1)] : Cells) ++ (([.slice A_82 n_83 c_84] : Cells) ++ ([.bool ((gx l1 (x_64.toNat)).2.2.2)] : Cells)))).toArray), (9, .pointer (some ⟨B_87, 0, none⟩)), (52, .pointer (some ⟨B_87, 2, none⟩)), (53, .slice A_82 n_83 c_84), (54, .pointer (some ⟨B_87, 3, none⟩)), (55, .bool ((gx l1 (x_64.toNat)).2.2.2)), (56, .slice A_98 n_100 c_99), (10, .slice A_98 n_100 c_99), (11, .bool true), (57, .pointer (some ⟨B_87, 0, none⟩)), (58, .int .i64 ((gx l1 (x_64.toNat)).1)), (59, .int .i64 (bits .and .i64 ((gx l1 (x_64.toNat)).1) 7)), (66, .bool ((bits .and .i64 ((gx l1 (x_64.toNat)).1) 7) == 0)), (65, .bool ((bits .and .i64 ((gx l1 (x_64.toNat)).1) 7) == 1)), (67, .bool ((bits .and .i64 ((gx l1 (x_64.toNat)).1) 7) == 1)), (87, .bool ((bits .and .i64 ((gx l1 (x_64.toNat)).1) 7) == 2)), (86, .bool ((bits .and .i64 ((gx l1 (x_64.toNat)).1) 7) == 3)), (88, .bool ((bits .and .i64 ((gx l1 (x_64.toNat)).1) 7) == 3)), (115, .bool ((bits .and .i64 ((gx l1 (x_64.toNat)).1) 7) == 4)), (114, .bool ((bits .and .i64 ((gx l1 (x_64.toNat)).1) 7) == 4)), (132, .bool ((bits .and .i64 ((gx l1 (x_64.toNat)).1) 7) == 5)), (131, .bool ((bits .and .i64 ((gx l1 (x_64.toNat)).1) 7) == 5)), (149, .bool ((bits .and .i64 ((gx l1 (x_64.toNat)).1) 7) == 6)), (148, .bool ((bits .and .i64 ((gx l1 (x_64.toNat)).1) 7) == 6)), (60, .pointer (some ⟨B_87, 3, none⟩)), (61, .bool ((gx l1 (x_64.toNat)).2.2.2)), (62, .pointer (some ⟨b_10, 0, none⟩)), (64, .pointer (some ⟨B_22, 1, none⟩)), (165, .pointer (some ⟨b_10, 0, none⟩)), (166, .slice A_911 n_912 c_913), (29, .slice A_911 n_912 c_913), (167, .bool true), (168, .bool false), (169, .bool false), (170, .slice A_911 n_912 c_913), (171, .int .i64 (l_914.length : Int)), (172, .pointer (some ⟨B_22, 1, none⟩)), (173, .slice none 0 0), (174, .int .i64 0), (175, .bool ((l_914.length : Int) != 0)), (176, .bool ((l_914.length : Int) != 0)), (30, .int .i64 0)] (by repeat' constructor) ?_
           refine CW.loop (fun kL9 l_ w_ => ∃ (T_923 : Pool) (b_925 : Bool) (x_926 : Int), l_ = [(1, .slice A1 n1 c1), (4, .bool b_925), (6, .pointer (some ⟨b_10, 0, none⟩)), (7, .pointer (some ⟨B_22, 0, none⟩)), (8, .int .i64 x_64), (38, .int .i64 x_64), (39, .slice A1 n1 c1), (40, .int .i64 (l1.length : Int)), (41, .bool (decide (x_64 < (l1.length : Int)))), (42, .bool (decide (x_64 < (l1.length : Int)))), (43, .int .i64 x_64), (44, .bool (decide (x_64 < 60))), (45, .bool (decide (x_64 < 60))), (48, .slice A1 n1 c1), (49, .int .i64 x_64), (50, .pointer (some (a_77.add ((x_64.toNat) * 4)))), (51, .agg (([.int .i64 ((gx l1 (x_64.toNat)).1)] : Cells) ++ (([.int .u64 ((gx l1 (x_64.toNat)).2.1)] : Cells) ++ (([.slice A_82 n_83 c_84] : Cells) ++ ([.bool ((gx l1 (x_64.toNat)).2.2.2)] : Cells)))).toArray), (9, .pointer (some ⟨B_87, 0, none⟩)), (52, .pointer (some ⟨B_87, 2, none⟩)), (53, .slice A_82 n_83 c_84), (54, .pointer (some ⟨B_87, 3, none⟩)), (55, .bool ((gx l1 (x_64.toNat)).2.2.2)), (56, .slice A_98 n_100 c_99), (10, .slice A_98 n_100 c_99), (11, .bool true), (57, .pointer (some ⟨B_87, 0, none⟩)), (58, .int .i64 ((gx l1 (x_64.toNat)).1)), (59, .int .i64 (bits .and .i64 ((gx l1 (x_64.toNat)).1) 7)), (66, .bool ((bits .and .i64 ((gx l1 (x_64.toNat)).1) 7) == 0)), (65, .bool ((bits .and .i64 ((gx l1 (x_64.toNat)).1) 7) == 1)), (67, .bool ((bits .and .i64 ((gx l1 (x_64.toNat)).1) 7) == 1)), (87, .bool ((bits .and .i64 ((gx l1 (x_64.toNat)).1) 7) == 2)), (86, .bool ((bits .and .i64 ((gx l1 (x_64.toNat)).1) 7) == 3)), (88, .bool ((bits .and .i64 ((gx l1 (x_64.toNat)).1) 7) == 3)), (115, .bool ((bits .and .i64 ((gx l1 (x_64.toNat)).1) 7) == 4)), (114, .bool ((bits .and .i64 ((gx l1 (x_64.toNat)).1) 7) == 4)), (132, .bool ((bits .and .i64 ((gx l1 (x_64.toNat)).1) 7) == 5)), (131, .bool ((bits .and .i64 ((gx l1 (x_64.toNat)).1) 7) == 5)), (149, .bool ((bits .and .i64 ((gx l1 (x_64.toNat)).1) 7) == 6)), (148, .bool ((bits .and .i64 ((gx l1 (x_64.toNat)).1) 7) == 6)), (60, .pointer (some ⟨B_87, 3, none⟩)), (61, .bool ((gx l1 (x_64.toNat)).2.2.2)), (62, .pointer (some ⟨b_10, 0, none⟩)), (64, .pointer (some ⟨B_22, 1, none⟩)), (165, .pointer (some ⟨b_10, 0, none⟩)), (166, .slice A_911 n_912 c_913), (29, .slice A_911 n_912 c_913), (167, .bool true), (168, .bool false), (169, .bool false), (170, .slice A_911 n_912 c_913), (171, .int .i64 (l_914.length : Int)), (172, .pointer (some ⟨B_22, 1, none⟩)), (173, .slice none 0 0), (174, .int .i64 0), (175, .bool ((l_914.length : Int) != 0)), (176, .bool ((l_914.length : Int) != 0)), (30, .int .i64 x_926)] ∧ reliquarylaw15_BuffersPlays.L9 x_56 x_64 a_902_0 l_906_1 l_914 (reliquarylaw15_BuffersPlays.L1 l1 kL1) kL9 b_925 x_926 ∧ (Pl T_900 T_923) ∧ St w w_ (.cells b_10 (([.int .i64 a_902_0] : Cells) ++ ([.slice A_903_1 n_904_1 c_905_1] : Cells)) 57 :: .sl A_903_1 c_905_1 n_904_1 x_907_1 60 3 :: .sl A_911 c_913 n_912 (iv .u64 l_914) 29 1 :: .sl A_98 c_99 n_100 (iv .u8 r_97) 5 1 :: .cells B_87 (([.int .i64 ((gx l1 (x_64.toNat)).1)] : Cells) ++ (([.int .u64 ((gx l1 (x_64.toNat)).2.1)] : Cells) ++ (([.slice A_82 n_83 c_84] : Cells) ++ ([.bool ((gx l1 (x_64.toNat)).2.2.2)] : Cells)))) 41 :: .cells B_22 (([.int .i64 x_56] : Cells) ++ ([.slice none 0 0] : Cells)) 39 :: (T_923 ++ R))) (k := k_922) ⟨T_900, b_63, 0, rfl, H, Pl.refl, st_918⟩ (fun _ _ h => by obtain ⟨_, _, _, _, h, _⟩ := h; exact h.elim) ?_
           rintro kL9 l_929 w_927 ⟨T_923, b_925, x_926, rfl, H, hs_924, st_928⟩
           refine CW.seq ?_
           refine CW.seq ?_
           refine CW.region ?_
           refine WL.val Wanted.none (Runs.move rfl) ?_
           refine WL.val Wanted.none (Runs.move rfl) ?_
           refine WL.val Wanted.none (Runs.len_sl Try.underlying33 rfl (by rw [hn_916])) ?_
           refine WL.val Wanted.none (Runs.lss rfl rfl rfl) ?_
           refine WL.nil ?_
           refine QW.then_n ?_
           obtain ⟨c_930, H⟩ := H
           have h_931 : (decide (x_926 < (l_914.length : Int))) = false := (decide_eq_false c_930)
           refine CW.cf rfl h_931 ?_
           refine CW.exit ?_
           refine QW.then_x ?_
           refine QW.then_x ?_
           refine QW.blk_x ?_
           refine QW.blk_n ?_
           refine QW.then_n ?_
           refine CW.region ?_
           refine WL.val Wanted.none (Runs.move rfl) ?_
           refine WL.val Wanted.none (Runs.add rfl rfl rfl) ?_
           refine WL.val Wanted.none (Runs.assign rfl) ?_
           refine WL.nil ?_
           have st_928' := (St.pickT (L := [_, _, _, _, _, _]) st_928 [5, 0, 1] (by decide))
           exact QW.at _ (by repeat' constructor) ⟨T_923, A_903_1, c_905_1, n_904_1, x_907_1, l_906_1, x_56, none, 0, 0, ([] : List R51), a_902_0, b_925, IntKind.i64.wrap (x_64 + 1), rfl, H, (((hs_48.trans hs_884).trans hs_901).trans hs_924), hn_908_1, (hx_909_1.mono (fun _ h_ => hs_924.1 _ h_)), (by first | exact HB.nil | exact HS.nil), st_928'⟩
          ·have h_879 : ((gx l1 (x_64.toNat)).2.2.2) = false := (Bool.eq_false_iff.mpr c_878)
           refine CW.cf rfl h_879 ?_
           refine CW.skip ?_
           refine QW.then_n ?_
           refine CW.region ?_
           refine WL.val Wanted.none (Runs.assign rfl) ?_
           refine WL.nil ?_
           refine QW.blk_n ?_
           refine QW.then_n ?_
           refine CW.seq ?_
           refine CW.region ?_
           refine WL.val Wanted.none (Runs.move rfl) ?_
           have st_936 := (St.pickT (L := [_, _, _, _, _]) st_95 [3, 4, 0, 1, 2] (by decide))
           replace st_936 : St w w_94 (.cells b_10 (([.int .i64 x_62] : Cells) ++ ([.slice A_53 n_55 c_54] : Cells)) 57 :: .sl A_53 c_54 n_55 x_51 60 3 :: .sl A_98 c_99 n_100 (iv .u8 r_97) 5 1 :: .cells B_87 (([.int .i64 ((gx l1 (x_64.toNat)).1)] : Cells) ++ (([.int .u64 ((gx l1 (x_64.toNat)).2.1)] : Cells) ++ (([.slice A_82 n_83 c_84] : Cells) ++ ([.bool ((gx l1 (x_64.toNat)).2.2.2)] : Cells)))) 41 :: .cells B_22 (([.int .i64 x_56] : Cells) ++ ([.slice A_57 n_58 c_59] : Cells)) 39 :: (T_47 ++ R)) := st_936
           have st_937 : St w w_94 (.cells b_10 (([.int .i64 x_62] : Cells) ++ ([.slice A_53 n_55 c_54] : Cells)) 57 :: .sl A_53 c_54 n_55 x_51 60 3 :: (T_47 ++ (.sl A_98 c_99 n_100 (iv .u8 r_97) 5 1 :: .cells B_87 (([.int .i64 ((gx l1 (x_64.toNat)).1)] : Cells) ++ (([.int .u64 ((gx l1 (x_64.toNat)).2.1)] : Cells) ++ (([.slice A_82 n_83 c_84] : Cells) ++ ([.bool ((gx l1 (x_64.toNat)).2.2.2)] : Cells)))) 41 :: .cells B_22 (([.int .i64 x_56] : Cells) ++ ([.slice A_57 n_58 c_59] : Cells)) 39 :: R))) := St.hide (A := [_, _]) (B := [_, _, _]) (T := T_47) (R := R) st_936
           obtain ⟨a_941_0, l_945_1, l_953, hr_938, H⟩ := H
           refine WL.call Wanted.none ent13 rfl (buffers_Cache_Blocks.calls w w_94 T_47 (.sl A_98 c_99 n_100 (iv .u8 r_97) 5 1 :: .cells B_87 (([.int .i64 ((gx l1 (x_64.toNat)).1)] : Cells) ++ (([.int .u64 ((gx l1 (x_64.toNat)).2.1)] : Cells) ++ (([.slice A_82 n_83 c_84] : Cells) ++ ([.bool ((gx l1 (x_64.toNat)).2.2.2)] : Cells)))) 41 :: .cells B_22 (([.int .i64 x_56] : Cells) ++ ([.slice A_57 n_58 c_59] : Cells)) 39 :: R) x_62 l_49 b_10 A_53 n_55 c_54 x_51  st_937 (hn_50) hx_52 a_941_0 l_945_1 l_953 hr_938) ?_
           rintro _ w_956 ⟨T_939, A_942_1, n_943_1, c_944_1, x_946_1, A_950, n_951, c_952, hs_940, hn_947_1, hx_948_1, hn_955, rfl, sc_958⟩
           have st_957 : St w w_956 (.cells b_10 (([.int .i64 a_941_0] : Cells) ++ ([.slice A_942_1 n_943_1 c_944_1] : Cells)) 57 :: .sl A_942_1 c_944_1 n_943_1 x_946_1 60 3 :: .sl A_950 c_952 n_951 (iv .u64 l_953) 29 1 :: .sl A_98 c_99 n_100 (iv .u8 r_97) 5 1 :: .cells B_87 (([.int .i64 ((gx l1 (x_64.toNat)).1)] : Cells) ++ (([.int .u64 ((gx l1 (x_64.toNat)).2.1)] : Cells) ++ (([.slice A_82 n_83 c_84] : Cells) ++ ([.bool ((gx l1 (x_64.toNat)).2.2.2)] : Cells)))) 41 :: .cells B_22 (([.int .i64 x_56] : Cells) ++ ([.slice A_57 n_58 c_59] : Cells)) 39 :: (T_939 ++ R)) := St.unhide (A := [_, _, _]) (B := [_, _, _]) (T := T_939) (R := R) sc_958
           refine ⟨_, rfl, ?_⟩
           refine WL.val Wanted.none (Runs.assign rfl) ?_
           refine WL.nil ?_
           refine QW.then_n ?_
           refine CW.seq ?_
           refine CW.seq ?_
           refine CW.region ?_
           refine WL.val Wanted.none (Runs.move rfl) ?_
           refine WL.val Wanted.none (Runs.not rfl rfl) ?_
           refine WL.val Wanted.none (Runs.move rfl) ?_
           refine WL.on ?_ ?_; exact Wanted.guard (dj := 169) (by rfl) (by rfl) (by rfl)
           refine WL.val Wanted.none (Runs.move rfl) ?_
           refine WL.on ?_ ?_; exact Wanted.guard (dj := 169) (by rfl) (by rfl) (by rfl)
           refine WL.val Wanted.none (Runs.len_sl Try.underlying33 rfl (by rw [hn_955])) ?_
           refine WL.on ?_ ?_; exact Wanted.guard (dj := 169) (by rfl) (by rfl) (by rfl)
           refine WL.val Wanted.none (Runs.fieldAddr (off := 1) (p := 1) fld39_1 rfl rfl rfl) ?_
           refine WL.on ?_ ?_; exact Wanted.guard (dj := 169) (by rfl) (by rfl) (by rfl)
           refine WL.val Wanted.none (Runs.load nagg37 rfl (st_957.cell (k := 5) rfl (part_one (u := .slice A_57 n_58 c_59) (pre := (([.int .i64 x_56] : Cells))) (post := (([] : Cells))) (by first | rfl | simp only [List.append_assoc, List.append_nil, List.nil_append, List.cons_append]) (by first | rfl | simp only [List.length_append, List.length_cons, List.length_nil, iv_length])))) ?_
           refine WL.on ?_ ?_; exact Wanted.guard (dj := 169) (by rfl) (by rfl) (by rfl)
           refine WL.val Wanted.none (Runs.len_sl Try.underlying37 rfl (by rw [hb_61.1])) ?_
           refine WL.on ?_ ?_; exact Wanted.guard (dj := 169) (by rfl) (by rfl) (by rfl)
           refine WL.val Wanted.none (Runs.neq rfl rfl rfl) ?_
           refine WL.val Wanted.none (Runs.pick_f rfl rfl) ?_
           refine WL.nil ?_
           refine QW.then_n ?_
           obtain ⟨c_959, H⟩ := H
           have h_960 : ((l_953.length : Int) != (l_60.length : Int)) = false := (bne_eq_false_iff_eq.mpr (Decidable.not_not.mp c_959))
           refine CW.cf rfl h_960 ?_
           refine CW.skip ?_
           refine QW.then_n ?_
           refine CW.seq ?_
           refine CW.region ?_
           refine WL.val Wanted.none (Runs.assign rfl) ?_
           refine WL.nil ?_
           refine QW.then_n ?_
           refine CW.block ?_
           obtain ⟨k_961, H⟩ := H
           refine CW.sub [(1, .slice A1 n1 c1), (4, .bool b_63), (6, .pointer (some ⟨b_10, 0, none⟩)), (7, .pointer (some ⟨B_22, 0, none⟩)), (8, .int .i64 x_64), (38, .int .i64 x_64), (39, .slice A1 n1 c1), (40, .int .i64 (l1.length : Int)), (41, .bool (decide (x_64 < (l1.length : Int)))), (42, .bool (decide (x_64 < (l1.length : Int)))), (43, .int .i64 x_64), (44, .bool (decide (x_64 < 60))), (45, .bool (decide (x_64 < 60))), (48, .slice A1 n1 c1), (49, .int .i64 x_64), (50, .pointer (some (a_77.add ((x_64.toNat) * 4)))), (51, .agg (([.int .i64 ((gx l1 (x_64.toNat)).1)] : Cells) ++ (([.int .u64 ((gx l1 (x_64.toNat)).2.1)] : Cells) ++ (([.slice A_82 n_83 c_84] : Cells) ++ ([.bool ((gx l1 (x_64.toNat)).2.2.2)] : Cells)))).toArray), (9, .pointer (some ⟨B_87, 0, none⟩)), (52, .pointer (some ⟨B_87, 2, none⟩)), (53, .slice A_82 n_83 c_84), (54, .pointer (some ⟨B_87, 3, none⟩)), (55, .bool ((gx l1 (x_64.toNat)).2.2.2)), (56, .slice A_98 n_100 c_99), (10, .slice A_98 n_100 c_99), (11, .bool true), (57, .pointer (some ⟨B_87, 0, none⟩)), (58, .int .i64 ((gx l1 (x_64.toNat)).1)), (59, .int .i64 (bits .and .i64 ((gx l1 (x_64.toNat)).1) 7)), (66, .bool ((bits .and .i64 ((gx l1 (x_64.toNat)).1) 7) == 0)), (65, .bool ((bits .and .i64 ((gx l1 (x_64.toNat)).1) 7) == 1)), (67, .bool ((bits .and .i64 ((gx l1 (x_64.toNat)).1) 7) == 1)), (87, .bool ((bits .and .i64 ((gx l1 (x_64.toNat)).1) 7) == 2)), (86, .bool ((bits .and .i64 ((gx l1 (x_64.toNat)).1) 7) == 3)), (88, .bool ((bits .and .i64 ((gx l1 (x_64.toNat)).1) 7) == 3)), (115, .bool ((bits .and .i64 ((gx l1 (x_64.toNat)).1) 7) == 4)), (114, .bool ((bits .and .i64 ((gx l1 (x_64.toNat)).1) 7) == 4)), (132, .bool ((bits .and .i64 ((gx l1 (x_64.toNat)).1) 7) == 5)), (131, .bool ((bits .and .i64 ((gx l1 (x_64.toNat)).1) 7) == 5)), (149, .bool ((bits .and .i64 ((gx l1 (x_64.toNat)).1) 7) == 6)), (148, .bool ((bits .and .i64 ((gx l1 (x_64.toNat)).1) 7) == 6)), (60, .pointer (some ⟨B_87, 3, none⟩)), (61, .bool ((gx l1 (x_64.toNat)).2.2.2)), (165, .pointer (some ⟨b_10, 0, none⟩)), (166, .slice A_950 n_951 c_952), (29, .slice A_950 n_951 c_952), (167, .bool true), (168, .bool false), (169, .bool false), (170, .slice A_950 n_951 c_952), (171, .int .i64 (l_953.length : Int)), (172, .pointer (some ⟨B_22, 1, none⟩)), (173, .slice A_57 n_58 c_59), (174, .int .i64 (l_60.length : Int)), (175, .bool ((l_953.length : Int) != (l_60.length : Int))), (176, .bool ((l_953.length : Int) != (l_60.length : Int))), (30, .int .i64 0)] (by repeat' constructor) ?_
           refine CW.loop (fun kL10 l_ w_ => ∃ (T_962 : Pool) (b_964 : Bool) (x_965 : Int), l_ = [(1, .slice A1 n1 c1), (4, .bool b_964), (6, .pointer (some ⟨b_10, 0, none⟩)), (7, .pointer (some ⟨B_22, 0, none⟩)), (8, .int .i64 x_64), (38, .int .i64 x_64), (39, .slice A1 n1 c1), (40, .int .i64 (l1.length : Int)), (41, .bool (decide (x_64 < (l1.length : Int)))), (42, .bool (decide (x_64 < (l1.length : Int)))), (43, .int .i64 x_64), (44, .bool (decide (x_64 < 60))), (45, .bool (decide (x_64 < 60))), (48, .slice A1 n1 c1), (49, .int .i64 x_64), (50, .pointer (some (a_77.add ((x_64.toNat) * 4)))), (51, .agg (([.int .i64 ((gx l1 (x_64.toNat)).1)] : Cells) ++ (([.int .u64 ((gx l1 (x_64.toNat)).2.1)] : Cells) ++ (([.slice A_82 n_83 c_84] : Cells) ++ ([.bool ((gx l1 (x_64.toNat)).2.2.2)] : Cells)))).toArray), (9, .pointer (some ⟨B_87, 0, none⟩)), (52, .pointer (some ⟨B_87, 2, none⟩)), (53, .slice A_82 n_83 c_84), (54, .pointer (some ⟨B_87, 3, none⟩)), (55, .bool ((gx l1 (x_64.toNat)).2.2.2)), (56, .slice A_98 n_100 c_99), (10, .slice A_98 n_100 c_99), (11, .bool true), (57, .pointer (some ⟨B_87, 0, none⟩)), (58, .int .i64 ((gx l1 (x_64.toNat)).1)), (59, .int .i64 (bits .and .i64 ((gx l1 (x_64.toNat)).1) 7)), (66, .bool ((bits .and .i64 ((gx l1 (x_64.toNat)).1) 7) == 0)), (65, .bool ((bits .and .i64 ((gx l1 (x_64.toNat)).1) 7) == 1)), (67, .bool ((bits .and .i64 ((gx l1 (x_64.toNat)).1) 7) == 1)), (87, .bool ((bits .and .i64 ((gx l1 (x_64.toNat)).1) 7) == 2)), (86, .bool ((bits .and .i64 ((gx l1 (x_64.toNat)).1) 7) == 3)), (88, .bool ((bits .and .i64 ((gx l1 (x_64.toNat)).1) 7) == 3)), (115, .bool ((bits .and .i64 ((gx l1 (x_64.toNat)).1) 7) == 4)), (114, .bool ((bits .and .i64 ((gx l1 (x_64.toNat)).1) 7) == 4)), (132, .bool ((bits .and .i64 ((gx l1 (x_64.toNat)).1) 7) == 5)), (131, .bool ((bits .and .i64 ((gx l1 (x_64.toNat)).1) 7) == 5)), (149, .bool ((bits .and .i64 ((gx l1 (x_64.toNat)).1) 7) == 6)), (148, .bool ((bits .and .i64 ((gx l1 (x_64.toNat)).1) 7) == 6)), (60, .pointer (some ⟨B_87, 3, none⟩)), (61, .bool ((gx l1 (x_64.toNat)).2.2.2)), (165, .pointer (some ⟨b_10, 0, none⟩)), (166, .slice A_950 n_951 c_952), (29, .slice A_950 n_951 c_952), (167, .bool true), (168, .bool false), (169, .bool false), (170, .slice A_950 n_951 c_952), (171, .int .i64 (l_953.length : Int)), (172, .pointer (some ⟨B_22, 1, none⟩)), (173, .slice A_57 n_58 c_59), (174, .int .i64 (l_60.length : Int)), (175, .bool ((l_953.length : Int) != (l_60.length : Int))), (176, .bool ((l_953.length : Int) != (l_60.length : Int))), (30, .int .i64 x_965)] ∧ reliquarylaw15_BuffersPlays.L10 x_56 l_60 x_64 a_941_0 l_945_1 l_953 (reliquarylaw15_BuffersPlays.L1 l1 kL1) kL10 b_964 x_965 ∧ (Pl T_939 T_962) ∧ St w w_ (.cells b_10 (([.int .i64 a_941_0] : Cells) ++ ([.slice A_942_1 n_943_1 c_944_1] : Cells)) 57 :: .sl A_942_1 c_944_1 n_943_1 x_946_1 60 3 :: .sl A_950 c_952 n_951 (iv .u64 l_953) 29 1 :: .sl A_98 c_99 n_100 (iv .u8 r_97) 5 1 :: .cells B_87 (([.int .i64 ((gx l1 (x_64.toNat)).1)] : Cells) ++ (([.int .u64 ((gx l1 (x_64.toNat)).2.1)] : Cells) ++ (([.slice A_82 n_83 c_84] : Cells) ++ ([.bool ((gx l1 (x_64.toNat)).2.2.2)] : Cells)))) 41 :: .cells B_22 (([.int .i64 x_56] : Cells) ++ ([.slice A_57 n_58 c_59] : Cells)) 39 :: (T_962 ++ R))) (k := k_961) ⟨T_939, b_63, 0, rfl, H, Pl.refl, st_957⟩ (fun _ _ h => by obtain ⟨_, _, _, _, h, _⟩ := h; exact h.elim) ?_
           rintro kL10 l_968 w_966 ⟨T_962, b_964, x_965, rfl, H, hs_963, st_967⟩
           refine CW.seq ?_
           refine CW.seq ?_
           refine CW.region ?_
           refine WL.val Wanted.none (Runs.move rfl) ?_
           refine WL.val Wanted.none (Runs.move rfl) ?_
           refine WL.val Wanted.none (Runs.len_sl Try.underlying33 rfl (by rw [hn_955])) ?_
           refine WL.val Wanted.none (Runs.lss rfl rfl rfl) ?_
           refine WL.nil ?_
           refine QW.then_n ?_
           rcases H with ⟨c_969, H⟩ | ⟨c_969, H⟩
           ·have h_970 : (decide (x_965 < (l_953.length : Int))) = true := (decide_eq_true c_969)
            refine CW.ct rfl h_970 ?_
            refine CW.skip ?_
            refine QW.then_n ?_
            refine CW.seq ?_
            refine CW.block ?_
            refine CW.seq ?_
            refine CW.region_qa wide (by kernel_rfl) st_967 ?_
            refine HL.val Wanted.none (fun wq sq => (Runs.move rfl)) ?_
            refine HL.val Wanted.none (fun wq sq => (Runs.move rfl)) ?_
            obtain ⟨⟨p_971, q_972⟩, H⟩ := H
            obtain ⟨a_973, e_974⟩ := (st_967.src_sl (k := 2) rfl).addr_iv (x_965.toNat) (by omega)
            refine HL.val Wanted.none (fun wq sq => (Runs.indexAddr Try.underlying33 cells29 (by decide) rfl e_974 rfl p_971 (by rw [hn_955]; exact q_972) (o := (x_965).toNat) (by first | rfl | omega))) ?_
            refine HL.val Wanted.none (fun wq sq => (Runs.load nagg29 rfl ((sq.src_sl (k := 2) rfl).cell_iv e_974 (by omega)))) ?_
            refine HL.val Wanted.none (fun wq sq => (Runs.fieldAddr (off := 1) (p := 1) fld39_1 rfl rfl rfl)) ?_
            refine HL.val Wanted.none (fun wq sq => (Runs.load nagg37 rfl (sq.cell (k := 5) rfl (part_one (u := .slice A_57 n_58 c_59) (pre := (([.int .i64 x_56] : Cells))) (post := (([] : Cells))) (by first | rfl | simp only [List.append_assoc, List.append_nil, List.nil_append, List.cons_append]) (by first | rfl | simp only [List.length_append, List.length_cons, List.length_nil, iv_length]))))) ?_
            refine HL.val Wanted.none (fun wq sq => (Runs.move rfl)) ?_
            obtain ⟨⟨p_975, q_976⟩, H⟩ := H
            obtain ⟨x_977, hs_978, hr_979⟩ := hb_61.2.2
            obtain ⟨a_980, e_981, ms_982, hc_983, hm_984⟩ := el_get (i := (x_965).toNat) ((hs_978.at st_967 (mem_T (A := [_, _, _, _, _, _]) (fun _ h_ => hs_963.1 _ (hs_940.1 _ h_))))) (hr_979.mono (fun _ h_ => hs_963.1 _ (hs_940.1 _ h_))) (fz51 w) (by decide) (by omega)
            obtain em_985 := inv51 hm_984
            replace em_985 : ms_982 = ([.int .u64 ((gx l_60 (x_965.toNat)).1)] : Cells) ++ (([.string ((gx l_60 (x_965.toNat)).2.1)] : Cells) ++ ([.int .i64 ((gx l_60 (x_965.toNat)).2.2)] : Cells)) := em_985
            subst em_985
            refine HL.val Wanted.none (fun wq sq => (Runs.indexAddr Try.underlying37 cells51 (by decide) rfl e_981 rfl p_975 (by rw [show n_58 = l_60.length from hb_61.1]; exact q_976) (o := (x_965.toNat) * 3) (by first | rfl | omega))) ?_
            refine HL.val Wanted.none (fun wq sq => (Runs.fieldAddrB (off := 0) fld51_0 rfl rfl rfl)) ?_
            refine HL.val Wanted.none (fun wq sq => (Runs.load nagg29 rfl (Src.cellAt (j := 0) (Src.cut ((hs_978.at sq (mem_T (A := [_, _, _, _, _, _]) (fun _ h_ => hs_963.1 _ (hs_940.1 _ h_))))) e_981 hc_983) rfl))) ?_
            refine HL.val Wanted.none (fun wq sq => (Runs.neq rfl rfl rfl)) ?_
            refine HL.nil (fun w_986 st_987 => ?_)
            refine WL.nil ?_
            refine QW.then_n ?_
            obtain ⟨c_988, H⟩ := H
            have h_989 : ((gn l_953 (x_965.toNat)) != ((gx l_60 (x_965.toNat)).1)) = false := (bne_eq_false_iff_eq.mpr (Decidable.not_not.mp c_988))
            refine CW.cf rfl h_989 ?_
            refine CW.skip ?_
            refine QW.blk_n ?_
            refine QW.then_n ?_
            refine CW.region ?_
            refine WL.val Wanted.none (Runs.move rfl) ?_
            refine WL.val Wanted.none (Runs.add rfl rfl rfl) ?_
            refine WL.val Wanted.none (Runs.assign rfl) ?_
            refine WL.nil ?_
            exact QW.at _ (by repeat' constructor) ⟨T_962, b_964, IntKind.i64.wrap (x_965 + 1), rfl, H, hs_963, st_987⟩
           ·have h_970 : (decide (x_965 < (l_953.length : Int))) = false := (decide_eq_false c_969)
            refine CW.cf rfl h_970 ?_
            refine CW.exit ?_
            refine QW.then_x ?_
            refine QW.then_x ?_
            refine QW.blk_x ?_
            refine QW.blk_n ?_
            refine QW.then_n ?_
            refine CW.region ?_
            refine WL.val Wanted.none (Runs.move rfl) ?_
            refine WL.val Wanted.none (Runs.add rfl rfl rfl) ?_
            refine WL.val Wanted.none (Runs.assign rfl) ?_
            refine WL.nil ?_
            have st_967' := (St.pickT (L := [_, _, _, _, _, _]) st_967 [5, 0, 1] (by decide))
            exact QW.at _ (by repeat' constructor) ⟨T_962, A_942_1, c_944_1, n_943_1, x_946_1, l_945_1, x_56, A_57, n_58, c_59, l_60, a_941_0, b_964, IntKind.i64.wrap (x_64 + 1), rfl, H, ((hs_48.trans hs_940).trans hs_963), hn_947_1, (hx_948_1.mono (fun _ h_ => hs_963.1 _ h_)), (hb_61.mono (fun _ h_ => hs_963.1 _ (hs_940.1 _ h_)) (fun _ h_ => hs_963.1 _ (hs_940.1 _ h_))), st_967'⟩
  ·have h_71 : (decide (x_64 < 60)) = false := (decide_eq_false c_70)
   refine CW.cf rfl h_71 ?_
   refine CW.exit ?_
   refine QW.then_x ?_
   refine QW.then_x ?_
   refine QW.blk_x ?_
   refine QW.then_n ?_
   refine CW.sub [(4, .bool b_63)] ⟨rfl, trivial⟩ ?_
   refine CW.seq ?_
   refine CW.region ?_
   refine WL.val Wanted.none (Runs.assign rfl) ?_
   refine WL.nil ?_
   refine QW.then_n ?_
   refine CW.ret ?_
   exact QW.ret1 rfl rfl ⟨rfl, st_66.ext⟩
 ·have h_69 : (decide (x_64 < (l1.length : Int))) = false := (decide_eq_false c_68)
  refine WL.off ?_ ?_; exact Wanted.guard (dj := 42) (by rfl) (evb (by rfl) h_69) (by rfl)
  refine WL.off ?_ ?_; exact Wanted.guard (dj := 42) (by rfl) (evb (by rfl) h_69) (by rfl)
  refine WL.val Wanted.none (Runs.pick_f (evb rfl h_69) rfl) ?_
  refine WL.nil ?_
  refine QW.then_n ?_
  refine CW.cf rfl rfl ?_
  refine CW.exit ?_
  refine QW.then_x ?_
  refine QW.then_x ?_
  refine QW.blk_x ?_
  refine QW.then_n ?_
  refine CW.sub [(4, .bool b_63)] ⟨rfl, trivial⟩ ?_
  refine CW.seq ?_
  refine CW.region ?_
  refine WL.val Wanted.none (Runs.assign rfl) ?_
  refine WL.nil ?_
  refine QW.then_n ?_
  refine CW.ret ?_
  exact QW.ret1 rfl rfl ⟨rfl, st_66.ext⟩

end Go.Proofs.Ytjilndiemfhapaa
