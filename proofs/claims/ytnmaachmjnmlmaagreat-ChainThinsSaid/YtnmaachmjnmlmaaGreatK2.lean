/-
  The compact code of these functions is the program's.
-/
import Derived.Test.YtnmaachmjnmlmaaGreatProg
import Derived.Test.YtnmaachmjnmlmaaGreatFa
import Derived.Test.YtnmaachmjnmlmaaGreatCa
set_option linter.unusedVariables false
set_option linter.unusedSimpArgs false
set_option linter.unusedSectionVars false
namespace Go.Iso
open Go.Ev Go.Proofs
set_option maxRecDepth 100000
theorem chk7 : funcC Tryz.prog Tryz.f7 c_chain_Thin = true := by decide +kernel
theorem chk9 : funcC Tryz.prog Tryz.f9 c_chain_Trace = true := by decide +kernel
theorem chk14 : funcC Tryz.prog Tryz.f14 c_frac_Same = true := by decide +kernel
theorem chk22 : funcC Tryz.prog Tryz.f22 c_tracer_line = true := by decide +kernel
theorem chk24 : funcC Tryz.prog Tryz.f24 c_frac_Whole = true := by decide +kernel
theorem chk26 : funcC Tryz.prog Tryz.f26 c_num_Sign = true := by decide +kernel
theorem chk27 : funcC Tryz.prog Tryz.f27 c_frac_low = true := by decide +kernel
theorem chk31 : funcC Tryz.prog Tryz.f31 c_grow_Base = true := by decide +kernel
theorem chk32 : funcC Tryz.prog Tryz.f32 c_mesh_New = true := by decide +kernel
theorem chk40 : funcC Tryz.prog Tryz.f40 c_walk_Holds = true := by decide +kernel
theorem chk41 : funcC Tryz.prog Tryz.f41 c_walk_within = true := by decide +kernel
theorem chk51 : funcC Tryz.prog Tryz.f51 c_spot_Of = true := by decide +kernel
theorem chk53 : funcC Tryz.prog Tryz.f53 c_mag_Of = true := by decide +kernel
theorem chk55 : funcC Tryz.prog Tryz.f55 c_frac_lone = true := by decide +kernel
theorem chk71 : funcC Tryz.prog Tryz.f71 c_Mesh_Drop = true := by decide +kernel
theorem chk72 : funcC Tryz.prog Tryz.f72 c_Mesh_Around = true := by decide +kernel
theorem chk89 : funcC Tryz.prog Tryz.f89 c_mag_word = true := by decide +kernel
theorem chk97 : funcC Tryz.prog Tryz.f97 c_wide_Sign = true := by decide +kernel
theorem chk98 : funcC Tryz.prog Tryz.f98 c_pred_area2 = true := by decide +kernel
theorem chk115 : funcC Tryz.prog Tryz.f115 c_bits_Div64 = true := by decide +kernel
theorem chk116 : funcC Tryz.prog Tryz.f116 c_bits_Mul64 = true := by decide +kernel
theorem chk118 : funcC Tryz.prog Tryz.f118 c_wide_minus = true := by decide +kernel
theorem chk120 : funcC Tryz.prog Tryz.f120 c_pred_Between = true := by decide +kernel
theorem chk123 : funcC Tryz.prog Tryz.f123 c_pred_quick = true := by decide +kernel
theorem chk126 : funcC Tryz.prog Tryz.f126 c_wide_Mul = true := by decide +kernel
theorem chk150 : funcC Tryz.prog Tryz.f150 c_wide_Times = true := by decide +kernel
theorem chk151 : funcC Tryz.prog Tryz.f151 c_wide_Add = true := by decide +kernel
theorem chk153 : funcC Tryz.prog Tryz.f153 c_wide_abs = true := by decide +kernel
end Go.Iso

