/-
  The compact code of these functions is the program's.
-/
import Derived.Test.YtnmaachmjnmlmaaGreatProg
import Derived.Test.YtnmaachmjnmlmaaGreatFa
import Derived.Test.YtnmaachmjnmlmaaGreatCa
set_option linter.unusedVariables false
set_option linter.unusedSimpArgs false
set_option linter.unusedSectionVars false
namespace Go.Iso
open Go.Ev Go.Proofs
set_option maxRecDepth 100000
theorem chk4 : funcC Tryz.prog Tryz.f4 c_l20_fit = true := by decide +kernel
theorem chk10 : funcC Tryz.prog Tryz.f10 c_frac_Of = true := by decide +kernel
theorem chk15 : funcC Tryz.prog Tryz.f15 c_l14_Small = true := by decide +kernel
theorem chk21 : funcC Tryz.prog Tryz.f21 c_march_Crossed = true := by decide +kernel
theorem chk28 : funcC Tryz.prog Tryz.f28 c_mag_Add = true := by decide +kernel
theorem chk30 : funcC Tryz.prog Tryz.f30 c_l12_Apart = true := by decide +kernel
theorem chk33 : funcC Tryz.prog Tryz.f33 c_grow_Insert = true := by decide +kernel
theorem chk43 : funcC Tryz.prog Tryz.f43 c_walk_beyond = true := by decide +kernel
theorem chk44 : funcC Tryz.prog Tryz.f44 c_march_Steps_1 = true := by decide +kernel
theorem chk45 : funcC Tryz.prog Tryz.f45 c_march_Above = true := by decide +kernel
theorem chk47 : funcC Tryz.prog Tryz.f47 c_Mesh_Edges = true := by decide +kernel
theorem chk48 : funcC Tryz.prog Tryz.f48 c_frac_Div = true := by decide +kernel
theorem chk49 : funcC Tryz.prog Tryz.f49 c_frac_Sub = true := by decide +kernel
theorem chk56 : funcC Tryz.prog Tryz.f56 c_mag_Gcd = true := by decide +kernel
theorem chk59 : funcC Tryz.prog Tryz.f59 c_mag_right = true := by decide +kernel
theorem chk61 : funcC Tryz.prog Tryz.f61 c_num_Cmp = true := by decide +kernel
theorem chk62 : funcC Tryz.prog Tryz.f62 c_num_Mul = true := by decide +kernel
theorem chk68 : funcC Tryz.prog Tryz.f68 c_walk_Find = true := by decide +kernel
theorem chk69 : funcC Tryz.prog Tryz.f69 c_grow_parted = true := by decide +kernel
theorem chk81 : funcC Tryz.prog Tryz.f81 c_Mesh_Edges_1 = true := by decide +kernel
theorem chk83 : funcC Tryz.prog Tryz.f83 c_Mesh_Edges_1_1 = true := by decide +kernel
theorem chk105 : funcC Tryz.prog Tryz.f105 c_Tri_place = true := by decide +kernel
theorem chk111 : funcC Tryz.prog Tryz.f111 c_slices_pdqsortCmpFunc_Edge = true := by decide +kernel
theorem chk112 : funcC Tryz.prog Tryz.f112 c_bits_Len = true := by decide +kernel
theorem chk119 : funcC Tryz.prog Tryz.f119 c_wide_Det = true := by decide +kernel
theorem chk140 : funcC Tryz.prog Tryz.f140 c_wide_Sub = true := by decide +kernel
theorem chk141 : funcC Tryz.prog Tryz.f141 c_slices_insertionSortOrdered_int = true := by decide +kernel
theorem chk147 : funcC Tryz.prog Tryz.f147 c_cmp_Less_int = true := by decide +kernel
end Go.Iso

