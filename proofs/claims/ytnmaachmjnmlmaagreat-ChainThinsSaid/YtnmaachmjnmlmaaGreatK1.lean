/-
  The compact code of these functions is the program's.
-/
import Derived.Test.YtnmaachmjnmlmaaGreatProg
import Derived.Test.YtnmaachmjnmlmaaGreatFa
import Derived.Test.YtnmaachmjnmlmaaGreatCa
set_option linter.unusedVariables false
set_option linter.unusedSimpArgs false
set_option linter.unusedSectionVars false
namespace Go.Iso
open Go.Ev Go.Proofs
set_option maxRecDepth 100000
theorem chk3 : funcC Tryz.prog Tryz.f3 c_l20_ChainThins = true := by decide +kernel
theorem chk5 : funcC Tryz.prog Tryz.f5 c_l07_Tame = true := by decide +kernel
theorem chk6 : funcC Tryz.prog Tryz.f6 c_spot_Same = true := by decide +kernel
theorem chk8 : funcC Tryz.prog Tryz.f8 c_l14_Scene = true := by decide +kernel
theorem chk16 : funcC Tryz.prog Tryz.f16 c_grow_Build = true := by decide +kernel
theorem chk17 : funcC Tryz.prog Tryz.f17 c_l13_Ends = true := by decide +kernel
theorem chk23 : funcC Tryz.prog Tryz.f23 c_march_Point = true := by decide +kernel
theorem chk29 : funcC Tryz.prog Tryz.f29 c_frac_Cmp = true := by decide +kernel
theorem chk34 : funcC Tryz.prog Tryz.f34 c_Mesh_At = true := by decide +kernel
theorem chk39 : funcC Tryz.prog Tryz.f39 c_Mesh_All = true := by decide +kernel
theorem chk50 : funcC Tryz.prog Tryz.f50 c_spot_Along = true := by decide +kernel
theorem chk54 : funcC Tryz.prog Tryz.f54 c_mag_Len = true := by decide +kernel
theorem chk57 : funcC Tryz.prog Tryz.f57 c_mag_Div = true := by decide +kernel
theorem chk60 : funcC Tryz.prog Tryz.f60 c_frac_Sign = true := by decide +kernel
theorem chk64 : funcC Tryz.prog Tryz.f64 c_l06_Tame = true := by decide +kernel
theorem chk65 : funcC Tryz.prog Tryz.f65 c_pred_Orient = true := by decide +kernel
theorem chk67 : funcC Tryz.prog Tryz.f67 c_Mesh_Link = true := by decide +kernel
theorem chk76 : funcC Tryz.prog Tryz.f76 c_Mesh_Find = true := by decide +kernel
theorem chk82 : funcC Tryz.prog Tryz.f82 c_slices_SortFunc_Edge = true := by decide +kernel
theorem chk84 : funcC Tryz.prog Tryz.f84 c_frac_Add = true := by decide +kernel
theorem chk88 : funcC Tryz.prog Tryz.f88 c_mag_Cmp = true := by decide +kernel
theorem chk99 : funcC Tryz.prog Tryz.f99 c_walk_first = true := by decide +kernel
theorem chk101 : funcC Tryz.prog Tryz.f101 c_cavity_Conflict = true := by decide +kernel
theorem chk113 : funcC Tryz.prog Tryz.f113 c_num_Add = true := by decide +kernel
theorem chk114 : funcC Tryz.prog Tryz.f114 c_num_Neg = true := by decide +kernel
theorem chk121 : funcC Tryz.prog Tryz.f121 c_slices_pdqsortOrdered_int = true := by decide +kernel
theorem chk129 : funcC Tryz.prog Tryz.f129 c_slices_insertionSortCmpFunc_Edge = true := by decide +kernel
theorem chk138 : funcC Tryz.prog Tryz.f138 c_mag_Sub = true := by decide +kernel
theorem chk162 : funcC Tryz.prog Tryz.f162 c_cmp_isNaN_int = true := by decide +kernel
end Go.Iso

