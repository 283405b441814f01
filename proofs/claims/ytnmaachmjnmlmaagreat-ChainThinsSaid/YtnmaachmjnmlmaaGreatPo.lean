/-
  The table of compact code is the program's.
-/
import Derived.Test.YtnmaachmjnmlmaaGreatK0
import Derived.Test.YtnmaachmjnmlmaaGreatK1
import Derived.Test.YtnmaachmjnmlmaaGreatK2
import Derived.Test.YtnmaachmjnmlmaaGreatK3
import Derived.Test.YtnmaachmjnmlmaaGreatFn
import Derived.ProofKit
set_option linter.unusedVariables false
set_option linter.unusedSimpArgs false
set_option linter.unusedSectionVars false
namespace Go.Iso
open Go.Ev Go.Proofs
set_option maxRecDepth 100000
def Tree.toL {α : Type} (k : Nat → Nat) : Tree α → List (Nat × α)
  | .leaf => []
  | .node l v r => (match v with
    | none => []
    | some a => [(k 0, a)]) ++ (Tree.toL (fun n => k (2 * n + 1)) l ++ Tree.toL (fun n => k (2 * n + 2)) r)
theorem Tree.get_mem {α : Type} : ∀ (t : Tree α) (k : Nat → Nat) (n : Nat) (a : α), t.get n = some a → (k n, a) ∈ Tree.toL k t
  | .leaf, k, n, a, h => by cases n <;> cases h
  | .node l v r, k, 0, a, h => by
    have h : v = some a := h
    subst h
    exact List.mem_append_left _ List.mem_cons_self
  | .node l v r, k, n + 1, a, h => by
    unfold Tree.toL
    refine List.mem_append_right _ ?_
    unfold Tree.get at h
    cases hb : Nat.beq (n % 2) 0 with
    | true =>
      rw [hb] at h
      have h2 := Nat.eq_of_beq_eq_true hb
      have := Tree.get_mem l (fun n => k (2 * n + 1)) (n / 2) a h
      have e : 2 * (n / 2) + 1 = n + 1 := by omega
      simp only [e] at this
      exact List.mem_append_left _ this
    | false =>
      rw [hb] at h
      have h2 : n % 2 ≠ 0 := fun e => by rw [e] at hb; cases hb
      have := Tree.get_mem r (fun n => k (2 * n + 2)) (n / 2) a h
      have e : 2 * (n / 2) + 2 = n + 1 := by omega
      simp only [e] at this
      exact List.mem_append_right _ this
def DeclOk (x : Nat × CDecl) : Prop :=
  match x.2 with
  | .fn cf => ∃ fn, Tryz.prog.funcs[x.1]? = some fn ∧ funcC Tryz.prog fn cf = true ∧ (fn.name == "runtime.NumGoroutine") = false
  | .add64 => x.1 = n_bits_Add64
  | .sub64 => x.1 = n_bits_Sub64
  | .prim _ => False
def AllOk : List (Nat × CDecl) → Prop
  | [] => True
  | x :: r => DeclOk x ∧ AllOk r
theorem AllOk.mem : ∀ {l : List (Nat × CDecl)}, AllOk l → ∀ x ∈ l, DeclOk x
  | _ :: _, h, x, hx => by
    rcases List.mem_cons.1 hx with rfl | hx
    · exact h.1
    · exact AllOk.mem h.2 x hx
def tableL : List (Nat × CDecl) := [(3, .fn c_l20_ChainThins), (7, .fn c_chain_Thin), (15, .fn c_l14_Small), (31, .fn c_grow_Base), (63, .fn c_frac_below), (95, .fn c_mag_Mul), (47, .fn c_Mesh_Edges), (111, .fn c_slices_pdqsortCmpFunc_Edge), (23, .fn c_march_Point), (39, .fn c_Mesh_All), (71, .fn c_Mesh_Drop), (103, .fn c_slices_Index_int), (55, .fn c_frac_lone), (87, .fn c_bits_Len64), (151, .fn c_wide_Add), (119, .fn c_wide_Det), (11, .fn c_l07_Tame_1), (19, .fn c_walk_Look), (67, .fn c_Mesh_Link), (99, .fn c_walk_first), (163, .fn c_wide_pick), (51, .fn c_spot_Of), (83, .fn c_Mesh_Edges_1_1), (147, .fn c_cmp_Less_int), (115, .fn c_bits_Div64), (27, .fn c_frac_low), (43, .fn c_walk_beyond), (59, .fn c_mag_right), (123, .fn c_pred_quick), (5, .fn c_l07_Tame), (9, .fn c_chain_Trace), (17, .fn c_l13_Ends), (33, .fn c_grow_Insert), (65, .fn c_pred_Orient), (129, .fn c_slices_insertionSortCmpFunc_Edge), (97, .fn c_wide_Sign), (49, .fn c_frac_Sub), (81, .fn c_Mesh_Edges_1), (113, .fn c_num_Add), (25, .fn c_num_Of), (41, .fn c_walk_within), (105, .fn c_Tri_place), (57, .fn c_mag_Div), (89, .fn c_mag_word), (153, .fn c_wide_abs), (121, .fn c_slices_pdqsortOrdered_int), (13, .fn c_num_Make), (21, .fn c_march_Crossed), (69, .fn c_grow_parted), (101, .fn c_cavity_Conflict), (53, .fn c_mag_Of), (85, .fn c_frac_Neg), (117, .sub64), (29, .fn c_frac_Cmp), (45, .fn c_march_Above), (141, .fn c_slices_insertionSortOrdered_int), (109, .fn c_pred_Circle), (61, .fn c_num_Cmp), (4, .fn c_l20_fit), (8, .fn c_l14_Scene), (16, .fn c_grow_Build), (32, .fn c_mesh_New), (64, .fn c_l06_Tame), (96, .fn c_frac_den), (48, .fn c_frac_Div), (80, .fn c_Mesh_All_1), (112, .fn c_bits_Len), (24, .fn c_frac_Whole), (40, .fn c_walk_Holds), (72, .fn c_Mesh_Around), (104, .fn c_Mesh_Around_1), (56, .fn c_mag_Gcd), (88, .fn c_mag_Cmp), (152, .fn c_wide_turn), (120, .fn c_pred_Between), (12, .fn c_frac_Make), (20, .fn c_march_Steps), (68, .fn c_walk_Find), (100, .fn c_cavity_across), (52, .fn c_frac_one), (84, .fn c_frac_Add), (116, .fn c_bits_Mul64), (28, .fn c_mag_Add), (44, .fn c_march_Steps_1), (76, .fn c_Mesh_Find), (140, .fn c_wide_Sub), (60, .fn c_frac_Sign), (6, .fn c_spot_Same), (10, .fn c_frac_Of), (34, .fn c_Mesh_At), (66, .fn c_Mesh_Make), (98, .fn c_pred_area2), (162, .fn c_cmp_isNaN_int), (50, .fn c_spot_Along), (82, .fn c_slices_SortFunc_Edge), (114, .fn c_num_Neg), (26, .fn c_num_Sign), (42, .fn c_Mesh_Real), (138, .fn c_mag_Sub), (106, .fn c_pred_On), (58, .add64), (122, .fn c_pred_small), (14, .fn c_frac_Same), (22, .fn c_tracer_line), (70, .fn c_cavity_Dig), (102, .fn c_slices_Sort_int), (54, .fn c_mag_Len), (86, .fn c_frac_Mul), (150, .fn c_wide_Times), (118, .fn c_wide_minus), (30, .fn c_l12_Apart), (46, .fn c_march_edge), (62, .fn c_num_Mul), (126, .fn c_wide_Mul)]
theorem tableL_eq : Tree.toL (fun n => n) table = tableL := rfl
theorem ok3 : DeclOk (3, .fn c_l20_ChainThins) := ⟨Tryz.f3, Tryz.func3, chk3, by decide +kernel⟩
theorem ok7 : DeclOk (7, .fn c_chain_Thin) := ⟨Tryz.f7, Tryz.func7, chk7, by decide +kernel⟩
theorem ok15 : DeclOk (15, .fn c_l14_Small) := ⟨Tryz.f15, Tryz.func15, chk15, by decide +kernel⟩
theorem ok31 : DeclOk (31, .fn c_grow_Base) := ⟨Tryz.f31, Tryz.func31, chk31, by decide +kernel⟩
theorem ok63 : DeclOk (63, .fn c_frac_below) := ⟨Tryz.f63, Tryz.func63, chk63, by decide +kernel⟩
theorem ok95 : DeclOk (95, .fn c_mag_Mul) := ⟨Tryz.f95, Tryz.func95, chk95, by decide +kernel⟩
theorem ok47 : DeclOk (47, .fn c_Mesh_Edges) := ⟨Tryz.f47, Tryz.func47, chk47, by decide +kernel⟩
theorem ok111 : DeclOk (111, .fn c_slices_pdqsortCmpFunc_Edge) := ⟨Tryz.f111, Tryz.func111, chk111, by decide +kernel⟩
theorem ok23 : DeclOk (23, .fn c_march_Point) := ⟨Tryz.f23, Tryz.func23, chk23, by decide +kernel⟩
theorem ok39 : DeclOk (39, .fn c_Mesh_All) := ⟨Tryz.f39, Tryz.func39, chk39, by decide +kernel⟩
theorem ok71 : DeclOk (71, .fn c_Mesh_Drop) := ⟨Tryz.f71, Tryz.func71, chk71, by decide +kernel⟩
theorem ok103 : DeclOk (103, .fn c_slices_Index_int) := ⟨Tryz.f103, Tryz.func103, chk103, by decide +kernel⟩
theorem ok55 : DeclOk (55, .fn c_frac_lone) := ⟨Tryz.f55, Tryz.func55, chk55, by decide +kernel⟩
theorem ok87 : DeclOk (87, .fn c_bits_Len64) := ⟨Tryz.f87, Tryz.func87, chk87, by decide +kernel⟩
theorem ok151 : DeclOk (151, .fn c_wide_Add) := ⟨Tryz.f151, Tryz.func151, chk151, by decide +kernel⟩
theorem ok119 : DeclOk (119, .fn c_wide_Det) := ⟨Tryz.f119, Tryz.func119, chk119, by decide +kernel⟩
theorem ok11 : DeclOk (11, .fn c_l07_Tame_1) := ⟨Tryz.f11, Tryz.func11, chk11, by decide +kernel⟩
theorem ok19 : DeclOk (19, .fn c_walk_Look) := ⟨Tryz.f19, Tryz.func19, chk19, by decide +kernel⟩
theorem ok67 : DeclOk (67, .fn c_Mesh_Link) := ⟨Tryz.f67, Tryz.func67, chk67, by decide +kernel⟩
theorem ok99 : DeclOk (99, .fn c_walk_first) := ⟨Tryz.f99, Tryz.func99, chk99, by decide +kernel⟩
theorem ok163 : DeclOk (163, .fn c_wide_pick) := ⟨Tryz.f163, Tryz.func163, chk163, by decide +kernel⟩
theorem ok51 : DeclOk (51, .fn c_spot_Of) := ⟨Tryz.f51, Tryz.func51, chk51, by decide +kernel⟩
theorem ok83 : DeclOk (83, .fn c_Mesh_Edges_1_1) := ⟨Tryz.f83, Tryz.func83, chk83, by decide +kernel⟩
theorem ok147 : DeclOk (147, .fn c_cmp_Less_int) := ⟨Tryz.f147, Tryz.func147, chk147, by decide +kernel⟩
theorem ok115 : DeclOk (115, .fn c_bits_Div64) := ⟨Tryz.f115, Tryz.func115, chk115, by decide +kernel⟩
theorem ok27 : DeclOk (27, .fn c_frac_low) := ⟨Tryz.f27, Tryz.func27, chk27, by decide +kernel⟩
theorem ok43 : DeclOk (43, .fn c_walk_beyond) := ⟨Tryz.f43, Tryz.func43, chk43, by decide +kernel⟩
theorem ok59 : DeclOk (59, .fn c_mag_right) := ⟨Tryz.f59, Tryz.func59, chk59, by decide +kernel⟩
theorem ok123 : DeclOk (123, .fn c_pred_quick) := ⟨Tryz.f123, Tryz.func123, chk123, by decide +kernel⟩
theorem ok5 : DeclOk (5, .fn c_l07_Tame) := ⟨Tryz.f5, Tryz.func5, chk5, by decide +kernel⟩
theorem ok9 : DeclOk (9, .fn c_chain_Trace) := ⟨Tryz.f9, Tryz.func9, chk9, by decide +kernel⟩
theorem ok17 : DeclOk (17, .fn c_l13_Ends) := ⟨Tryz.f17, Tryz.func17, chk17, by decide +kernel⟩
theorem ok33 : DeclOk (33, .fn c_grow_Insert) := ⟨Tryz.f33, Tryz.func33, chk33, by decide +kernel⟩
theorem ok65 : DeclOk (65, .fn c_pred_Orient) := ⟨Tryz.f65, Tryz.func65, chk65, by decide +kernel⟩
theorem ok129 : DeclOk (129, .fn c_slices_insertionSortCmpFunc_Edge) := ⟨Tryz.f129, Tryz.func129, chk129, by decide +kernel⟩
theorem ok97 : DeclOk (97, .fn c_wide_Sign) := ⟨Tryz.f97, Tryz.func97, chk97, by decide +kernel⟩
theorem ok49 : DeclOk (49, .fn c_frac_Sub) := ⟨Tryz.f49, Tryz.func49, chk49, by decide +kernel⟩
theorem ok81 : DeclOk (81, .fn c_Mesh_Edges_1) := ⟨Tryz.f81, Tryz.func81, chk81, by decide +kernel⟩
theorem ok113 : DeclOk (113, .fn c_num_Add) := ⟨Tryz.f113, Tryz.func113, chk113, by decide +kernel⟩
theorem ok25 : DeclOk (25, .fn c_num_Of) := ⟨Tryz.f25, Tryz.func25, chk25, by decide +kernel⟩
theorem ok41 : DeclOk (41, .fn c_walk_within) := ⟨Tryz.f41, Tryz.func41, chk41, by decide +kernel⟩
theorem ok105 : DeclOk (105, .fn c_Tri_place) := ⟨Tryz.f105, Tryz.func105, chk105, by decide +kernel⟩
theorem ok57 : DeclOk (57, .fn c_mag_Div) := ⟨Tryz.f57, Tryz.func57, chk57, by decide +kernel⟩
theorem ok89 : DeclOk (89, .fn c_mag_word) := ⟨Tryz.f89, Tryz.func89, chk89, by decide +kernel⟩
theorem ok153 : DeclOk (153, .fn c_wide_abs) := ⟨Tryz.f153, Tryz.func153, chk153, by decide +kernel⟩
theorem ok121 : DeclOk (121, .fn c_slices_pdqsortOrdered_int) := ⟨Tryz.f121, Tryz.func121, chk121, by decide +kernel⟩
theorem ok13 : DeclOk (13, .fn c_num_Make) := ⟨Tryz.f13, Tryz.func13, chk13, by decide +kernel⟩
theorem ok21 : DeclOk (21, .fn c_march_Crossed) := ⟨Tryz.f21, Tryz.func21, chk21, by decide +kernel⟩
theorem ok69 : DeclOk (69, .fn c_grow_parted) := ⟨Tryz.f69, Tryz.func69, chk69, by decide +kernel⟩
theorem ok101 : DeclOk (101, .fn c_cavity_Conflict) := ⟨Tryz.f101, Tryz.func101, chk101, by decide +kernel⟩
theorem ok53 : DeclOk (53, .fn c_mag_Of) := ⟨Tryz.f53, Tryz.func53, chk53, by decide +kernel⟩
theorem ok85 : DeclOk (85, .fn c_frac_Neg) := ⟨Tryz.f85, Tryz.func85, chk85, by decide +kernel⟩
theorem ok117 : DeclOk (117, .sub64) := rfl
theorem ok29 : DeclOk (29, .fn c_frac_Cmp) := ⟨Tryz.f29, Tryz.func29, chk29, by decide +kernel⟩
theorem ok45 : DeclOk (45, .fn c_march_Above) := ⟨Tryz.f45, Tryz.func45, chk45, by decide +kernel⟩
theorem ok141 : DeclOk (141, .fn c_slices_insertionSortOrdered_int) := ⟨Tryz.f141, Tryz.func141, chk141, by decide +kernel⟩
theorem ok109 : DeclOk (109, .fn c_pred_Circle) := ⟨Tryz.f109, Tryz.func109, chk109, by decide +kernel⟩
theorem ok61 : DeclOk (61, .fn c_num_Cmp) := ⟨Tryz.f61, Tryz.func61, chk61, by decide +kernel⟩
theorem ok4 : DeclOk (4, .fn c_l20_fit) := ⟨Tryz.f4, Tryz.func4, chk4, by decide +kernel⟩
theorem ok8 : DeclOk (8, .fn c_l14_Scene) := ⟨Tryz.f8, Tryz.func8, chk8, by decide +kernel⟩
theorem ok16 : DeclOk (16, .fn c_grow_Build) := ⟨Tryz.f16, Tryz.func16, chk16, by decide +kernel⟩
theorem ok32 : DeclOk (32, .fn c_mesh_New) := ⟨Tryz.f32, Tryz.func32, chk32, by decide +kernel⟩
theorem ok64 : DeclOk (64, .fn c_l06_Tame) := ⟨Tryz.f64, Tryz.func64, chk64, by decide +kernel⟩
theorem ok96 : DeclOk (96, .fn c_frac_den) := ⟨Tryz.f96, Tryz.func96, chk96, by decide +kernel⟩
theorem ok48 : DeclOk (48, .fn c_frac_Div) := ⟨Tryz.f48, Tryz.func48, chk48, by decide +kernel⟩
theorem ok80 : DeclOk (80, .fn c_Mesh_All_1) := ⟨Tryz.f80, Tryz.func80, chk80, by decide +kernel⟩
theorem ok112 : DeclOk (112, .fn c_bits_Len) := ⟨Tryz.f112, Tryz.func112, chk112, by decide +kernel⟩
theorem ok24 : DeclOk (24, .fn c_frac_Whole) := ⟨Tryz.f24, Tryz.func24, chk24, by decide +kernel⟩
theorem ok40 : DeclOk (40, .fn c_walk_Holds) := ⟨Tryz.f40, Tryz.func40, chk40, by decide +kernel⟩
theorem ok72 : DeclOk (72, .fn c_Mesh_Around) := ⟨Tryz.f72, Tryz.func72, chk72, by decide +kernel⟩
theorem ok104 : DeclOk (104, .fn c_Mesh_Around_1) := ⟨Tryz.f104, Tryz.func104, chk104, by decide +kernel⟩
theorem ok56 : DeclOk (56, .fn c_mag_Gcd) := ⟨Tryz.f56, Tryz.func56, chk56, by decide +kernel⟩
theorem ok88 : DeclOk (88, .fn c_mag_Cmp) := ⟨Tryz.f88, Tryz.func88, chk88, by decide +kernel⟩
theorem ok152 : DeclOk (152, .fn c_wide_turn) := ⟨Tryz.f152, Tryz.func152, chk152, by decide +kernel⟩
theorem ok120 : DeclOk (120, .fn c_pred_Between) := ⟨Tryz.f120, Tryz.func120, chk120, by decide +kernel⟩
theorem ok12 : DeclOk (12, .fn c_frac_Make) := ⟨Tryz.f12, Tryz.func12, chk12, by decide +kernel⟩
theorem ok20 : DeclOk (20, .fn c_march_Steps) := ⟨Tryz.f20, Tryz.func20, chk20, by decide +kernel⟩
theorem ok68 : DeclOk (68, .fn c_walk_Find) := ⟨Tryz.f68, Tryz.func68, chk68, by decide +kernel⟩
theorem ok100 : DeclOk (100, .fn c_cavity_across) := ⟨Tryz.f100, Tryz.func100, chk100, by decide +kernel⟩
theorem ok52 : DeclOk (52, .fn c_frac_one) := ⟨Tryz.f52, Tryz.func52, chk52, by decide +kernel⟩
theorem ok84 : DeclOk (84, .fn c_frac_Add) := ⟨Tryz.f84, Tryz.func84, chk84, by decide +kernel⟩
theorem ok116 : DeclOk (116, .fn c_bits_Mul64) := ⟨Tryz.f116, Tryz.func116, chk116, by decide +kernel⟩
theorem ok28 : DeclOk (28, .fn c_mag_Add) := ⟨Tryz.f28, Tryz.func28, chk28, by decide +kernel⟩
theorem ok44 : DeclOk (44, .fn c_march_Steps_1) := ⟨Tryz.f44, Tryz.func44, chk44, by decide +kernel⟩
theorem ok76 : DeclOk (76, .fn c_Mesh_Find) := ⟨Tryz.f76, Tryz.func76, chk76, by decide +kernel⟩
theorem ok140 : DeclOk (140, .fn c_wide_Sub) := ⟨Tryz.f140, Tryz.func140, chk140, by decide +kernel⟩
theorem ok60 : DeclOk (60, .fn c_frac_Sign) := ⟨Tryz.f60, Tryz.func60, chk60, by decide +kernel⟩
theorem ok6 : DeclOk (6, .fn c_spot_Same) := ⟨Tryz.f6, Tryz.func6, chk6, by decide +kernel⟩
theorem ok10 : DeclOk (10, .fn c_frac_Of) := ⟨Tryz.f10, Tryz.func10, chk10, by decide +kernel⟩
theorem ok34 : DeclOk (34, .fn c_Mesh_At) := ⟨Tryz.f34, Tryz.func34, chk34, by decide +kernel⟩
theorem ok66 : DeclOk (66, .fn c_Mesh_Make) := ⟨Tryz.f66, Tryz.func66, chk66, by decide +kernel⟩
theorem ok98 : DeclOk (98, .fn c_pred_area2) := ⟨Tryz.f98, Tryz.func98, chk98, by decide +kernel⟩
theorem ok162 : DeclOk (162, .fn c_cmp_isNaN_int) := ⟨Tryz.f162, Tryz.func162, chk162, by decide +kernel⟩
theorem ok50 : DeclOk (50, .fn c_spot_Along) := ⟨Tryz.f50, Tryz.func50, chk50, by decide +kernel⟩
theorem ok82 : DeclOk (82, .fn c_slices_SortFunc_Edge) := ⟨Tryz.f82, Tryz.func82, chk82, by decide +kernel⟩
theorem ok114 : DeclOk (114, .fn c_num_Neg) := ⟨Tryz.f114, Tryz.func114, chk114, by decide +kernel⟩
theorem ok26 : DeclOk (26, .fn c_num_Sign) := ⟨Tryz.f26, Tryz.func26, chk26, by decide +kernel⟩
theorem ok42 : DeclOk (42, .fn c_Mesh_Real) := ⟨Tryz.f42, Tryz.func42, chk42, by decide +kernel⟩
theorem ok138 : DeclOk (138, .fn c_mag_Sub) := ⟨Tryz.f138, Tryz.func138, chk138, by decide +kernel⟩
theorem ok106 : DeclOk (106, .fn c_pred_On) := ⟨Tryz.f106, Tryz.func106, chk106, by decide +kernel⟩
theorem ok58 : DeclOk (58, .add64) := rfl
theorem ok122 : DeclOk (122, .fn c_pred_small) := ⟨Tryz.f122, Tryz.func122, chk122, by decide +kernel⟩
theorem ok14 : DeclOk (14, .fn c_frac_Same) := ⟨Tryz.f14, Tryz.func14, chk14, by decide +kernel⟩
theorem ok22 : DeclOk (22, .fn c_tracer_line) := ⟨Tryz.f22, Tryz.func22, chk22, by decide +kernel⟩
theorem ok70 : DeclOk (70, .fn c_cavity_Dig) := ⟨Tryz.f70, Tryz.func70, chk70, by decide +kernel⟩
theorem ok102 : DeclOk (102, .fn c_slices_Sort_int) := ⟨Tryz.f102, Tryz.func102, chk102, by decide +kernel⟩
theorem ok54 : DeclOk (54, .fn c_mag_Len) := ⟨Tryz.f54, Tryz.func54, chk54, by decide +kernel⟩
theorem ok86 : DeclOk (86, .fn c_frac_Mul) := ⟨Tryz.f86, Tryz.func86, chk86, by decide +kernel⟩
theorem ok150 : DeclOk (150, .fn c_wide_Times) := ⟨Tryz.f150, Tryz.func150, chk150, by decide +kernel⟩
theorem ok118 : DeclOk (118, .fn c_wide_minus) := ⟨Tryz.f118, Tryz.func118, chk118, by decide +kernel⟩
theorem ok30 : DeclOk (30, .fn c_l12_Apart) := ⟨Tryz.f30, Tryz.func30, chk30, by decide +kernel⟩
theorem ok46 : DeclOk (46, .fn c_march_edge) := ⟨Tryz.f46, Tryz.func46, chk46, by decide +kernel⟩
theorem ok62 : DeclOk (62, .fn c_num_Mul) := ⟨Tryz.f62, Tryz.func62, chk62, by decide +kernel⟩
theorem ok126 : DeclOk (126, .fn c_wide_Mul) := ⟨Tryz.f126, Tryz.func126, chk126, by decide +kernel⟩
theorem all_ok : AllOk tableL := ⟨ok3, ok7, ok15, ok31, ok63, ok95, ok47, ok111, ok23, ok39, ok71, ok103, ok55, ok87, ok151, ok119, ok11, ok19, ok67, ok99, ok163, ok51, ok83, ok147, ok115, ok27, ok43, ok59, ok123, ok5, ok9, ok17, ok33, ok65, ok129, ok97, ok49, ok81, ok113, ok25, ok41, ok105, ok57, ok89, ok153, ok121, ok13, ok21, ok69, ok101, ok53, ok85, ok117, ok29, ok45, ok141, ok109, ok61, ok4, ok8, ok16, ok32, ok64, ok96, ok48, ok80, ok112, ok24, ok40, ok72, ok104, ok56, ok88, ok152, ok120, ok12, ok20, ok68, ok100, ok52, ok84, ok116, ok28, ok44, ok76, ok140, ok60, ok6, ok10, ok34, ok66, ok98, ok162, ok50, ok82, ok114, ok26, ok42, ok138, ok106, ok58, ok122, ok14, ok22, ok70, ok102, ok54, ok86, ok150, ok118, ok30, ok46, ok62, ok126, trivial⟩
theorem decl_ok {n : Nat} {d : CDecl} (h : prog n = some d) : DeclOk (n, d) := AllOk.mem all_ok _ (tableL_eq ▸ Tree.get_mem table (fun n => n) n d h)
theorem pok : POk Tryz.prog prog := by
  refine ⟨by kernel_rfl, fun fid cf h => decl_ok h, fun fid h => ?_, fun fid h => ?_, fun fid p h => (decl_ok h).elim⟩
  · cases (decl_ok h : fid = n_bits_Add64)
    intro x y c w hc
    rw [run_callFunc_extern Tryz.func58 (by kernel_rfl) (by kernel_rfl) (by kernel_rfl) (e := addE) (by kernel_rfl), run_addE x y c hc w]
    rfl
  · cases (decl_ok h : fid = n_bits_Sub64)
    intro x y c w hc
    rw [run_callFunc_extern Tryz.func117 (by kernel_rfl) (by kernel_rfl) (by kernel_rfl) (e := subE) (by kernel_rfl), run_subE x y c hc w]
    rfl
end Go.Iso

