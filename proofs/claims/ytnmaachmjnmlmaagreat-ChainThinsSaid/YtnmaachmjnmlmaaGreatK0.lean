/-
  The compact code of these functions is the program's.
-/
import Derived.Test.YtnmaachmjnmlmaaGreatProg
import Derived.Test.YtnmaachmjnmlmaaGreatFa
import Derived.Test.YtnmaachmjnmlmaaGreatCa
set_option linter.unusedVariables false
set_option linter.unusedSimpArgs false
set_option linter.unusedSectionVars false
namespace Go.Iso
open Go.Ev Go.Proofs
set_option maxRecDepth 100000
theorem chk11 : funcC Tryz.prog Tryz.f11 c_l07_Tame_1 = true := by decide +kernel
theorem chk12 : funcC Tryz.prog Tryz.f12 c_frac_Make = true := by decide +kernel
theorem chk13 : funcC Tryz.prog Tryz.f13 c_num_Make = true := by decide +kernel
theorem chk19 : funcC Tryz.prog Tryz.f19 c_walk_Look = true := by decide +kernel
theorem chk20 : funcC Tryz.prog Tryz.f20 c_march_Steps = true := by decide +kernel
theorem chk25 : funcC Tryz.prog Tryz.f25 c_num_Of = true := by decide +kernel
theorem chk42 : funcC Tryz.prog Tryz.f42 c_Mesh_Real = true := by decide +kernel
theorem chk46 : funcC Tryz.prog Tryz.f46 c_march_edge = true := by decide +kernel
theorem chk52 : funcC Tryz.prog Tryz.f52 c_frac_one = true := by decide +kernel
theorem chk63 : funcC Tryz.prog Tryz.f63 c_frac_below = true := by decide +kernel
theorem chk66 : funcC Tryz.prog Tryz.f66 c_Mesh_Make = true := by decide +kernel
theorem chk70 : funcC Tryz.prog Tryz.f70 c_cavity_Dig = true := by decide +kernel
theorem chk80 : funcC Tryz.prog Tryz.f80 c_Mesh_All_1 = true := by decide +kernel
theorem chk85 : funcC Tryz.prog Tryz.f85 c_frac_Neg = true := by decide +kernel
theorem chk86 : funcC Tryz.prog Tryz.f86 c_frac_Mul = true := by decide +kernel
theorem chk87 : funcC Tryz.prog Tryz.f87 c_bits_Len64 = true := by decide +kernel
theorem chk95 : funcC Tryz.prog Tryz.f95 c_mag_Mul = true := by decide +kernel
theorem chk96 : funcC Tryz.prog Tryz.f96 c_frac_den = true := by decide +kernel
theorem chk100 : funcC Tryz.prog Tryz.f100 c_cavity_across = true := by decide +kernel
theorem chk102 : funcC Tryz.prog Tryz.f102 c_slices_Sort_int = true := by decide +kernel
theorem chk103 : funcC Tryz.prog Tryz.f103 c_slices_Index_int = true := by decide +kernel
theorem chk104 : funcC Tryz.prog Tryz.f104 c_Mesh_Around_1 = true := by decide +kernel
theorem chk106 : funcC Tryz.prog Tryz.f106 c_pred_On = true := by decide +kernel
theorem chk109 : funcC Tryz.prog Tryz.f109 c_pred_Circle = true := by decide +kernel
theorem chk122 : funcC Tryz.prog Tryz.f122 c_pred_small = true := by decide +kernel
theorem chk152 : funcC Tryz.prog Tryz.f152 c_wide_turn = true := by decide +kernel
theorem chk163 : funcC Tryz.prog Tryz.f163 c_wide_pick = true := by decide +kernel
end Go.Iso

