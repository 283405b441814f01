/-

-/
import Derived.Test.YtnmaachmjnmlmaaGreatFa
set_option linter.unusedVariables false
set_option linter.unusedSimpArgs false
set_option linter.unusedSectionVars false
namespace Go.Iso
open Go.Ev
@[reducible] def t (n : Nat) : COpd := .tmp n
@[reducible] def o (d : Nat) (x : COp) : CO := ⟨some d, x, none, none⟩
@[reducible] def mv (d s : Nat) : CO := ⟨some d, .p (.move (.tmp s)), none, none⟩
@[reducible] def p (x : COp) : CO := ⟨none, x, none, none⟩
@[reducible] def l (d m k : Nat) (x : COp) : CO := ⟨some d, x, none, some (m, k)⟩
/-- isohyet/isohyetlaw20.ChainThins -/
@[reducible] def n_l20_ChainThins : Nat := 3
def c_l20_ChainThins_lp0 : CCode :=
 (.seq
 (.region 0 [1, 2, 7, 8, 9, 11, 22, 23, 24, 43, 44, 45] [
 o 45 (.p (.bin .lss (t 44) (t 43)))])
 (.seq
 (.cond (t 45)
 .skip
 (.exit 2))
 (.seq
 (.block 3
 (.seq
 (.region 1 [1, 2, 7, 8, 9, 11, 22, 23, 24, 43, 44] [
 o 46 (.p (.fieldAddr 2 (t 7))),
 o 47 (.p (.load1 (t 46))),
 o 48 (.p (.loadN 6 (t 11))),
 o 49 (.a 0 (.buildSlice 6 1 [.bool false, .slice none 0 0, .slice none 0 0, .bool false, .slice none 0 0, .slice none 0 0] [(0, 6, t 48)])),
 o 50 (.e (.append 6 112 (t 47) (t 49))),
 o 51 (.p (.fieldAddr 2 (t 7))),
 p (.e (.store 1 (t 51) (t 50)))])
 (.region 1 [1, 2, 7, 8, 9, 11, 22, 23, 24, 43, 44] [
 o 52 (.p (.fieldAddr 1 (t 7))),
 o 53 (.p (.load1 (t 52))),
 mv 54 9,
 mv 55 9,
 o 56 (.p (.bin .add (t 55) (.const (.int .i64 1)))),
 o 57 (.p (.build [.int .i64 0, .int .i64 0] [(0, 1, t 54), (1, 1, t 56)])),
 o 58 (.a 0 (.buildSlice 2 1 [.int .i64 0, .int .i64 0] [(0, 2, t 57)])),
 o 59 (.e (.append 2 16 (t 53) (t 58))),
 o 60 (.p (.fieldAddr 1 (t 7))),
 p (.e (.store 1 (t 60) (t 59)))])))
 (.region 0 [1, 2, 7, 8, 9, 11, 22, 23, 24, 43, 44] [
 o 61 (.p (.bin .add (t 44) (.const (.int .i64 1)))),
 mv 44 61]))))
def c_l20_ChainThins_r0 : CCode :=
 (.seq
 (.seq
 (.region 0 [1, 2, 7, 8, 9, 11, 22, 23, 24, 43, 44] [
 mv 43 12,
 o 44 (.p (.move (.const (.int .i64 0))))])
 (.block 2
 (.loop [1, 2, 7, 8, 9, 11, 22, 23, 24, 43, 44] c_l20_ChainThins_lp0)))
 (.seq
 (.region 0 [1, 2, 7, 8, 11, 22, 23, 24, 75] [
 mv 62 8,
 o 63 (.p (.len (t 62))),
 o 64 (.p (.bin .eql (t 63) (.const (.int .i64 0)))),
 mv 65 64,
 ⟨some 66, .p (.move (t 8)), (some (65, false)), none⟩,
 ⟨some 67, .p (.move (t 8)), (some (65, false)), none⟩,
 ⟨some 68, .p (.len (t 67)), (some (65, false)), none⟩,
 ⟨some 69, .p (.bin .sub (t 68) (.const (.int .i64 1))), (some (65, false)), none⟩,
 ⟨some 70, .p (.indexAddr 6 (t 66) (t 69)), (some (65, false)), none⟩,
 ⟨some 71, .p (.loadN 6 (t 70)), (some (65, false)), none⟩,
 ⟨some 72, .p (.loadN 6 (t 11)), (some (65, false)), none⟩,
 ⟨some 73, .e (.call (.func 6) [t 71, t 72]), (some (65, false)), none⟩,
 ⟨some 74, .p (.un .not (t 73)), (some (65, false)), none⟩,
 o 75 (.p (.pick (t 65) (.const (.bool true)) (t 74)))])
 (.cond (t 75)
 (.region 1 [1, 2, 7, 8, 22, 23, 24] [
 mv 76 8,
 o 77 (.p (.loadN 6 (t 11))),
 o 78 (.a 0 (.buildSlice 6 1 [.bool false, .slice none 0 0, .slice none 0 0, .bool false, .slice none 0 0, .slice none 0 0] [(0, 6, t 77)])),
 o 79 (.e (.append 6 112 (t 76) (t 78))),
 mv 8 79])
 .skip)))
def c_l20_ChainThins_lp1 : CCode :=
 (.seq
 (.region 0 [1, 2, 7, 8, 22, 23, 24, 25] [
 o 25 (.p (.bin .lss (t 24) (t 23)))])
 (.seq
 (.cond (t 25)
 .skip
 (.exit 0))
 (.seq
 (.block 1
 (.seq
 (.region 1 [1, 2, 7, 8, 9, 10, 22, 23, 24] [
 mv 26 24,
 o 27 (.p (.indexAddr 6 (t 22) (t 24))),
 o 28 (.p (.loadN 6 (t 27))),
 o 10 (.a 0 (.alloc [.bool false, .slice none 0 0, .slice none 0 0, .bool false, .slice none 0 0, .slice none 0 0])),
 mv 9 26,
 p (.e (.store 6 (t 10) (t 28)))])
 (.seq
 (.region 1 [1, 2, 7, 8, 9, 11, 22, 23, 24] [
 o 29 (.p (.loadN 6 (t 10))),
 o 30 (.e (.call (.func 5) [t 29])),
 o 11 (.a 0 (.alloc [.bool false, .slice none 0 0, .slice none 0 0, .bool false, .slice none 0 0, .slice none 0 0])),
 p (.e (.store 6 (t 11) (t 30)))])
 (.seq
 (.region 0 [1, 2, 7, 8, 9, 11, 12, 22, 23, 24] [
 o 12 (.p (.move (.const (.int .i64 1))))])
 (.seq
 (.seq
 (.region 0 [1, 2, 7, 8, 9, 11, 12, 22, 23, 24, 34] [
 mv 31 9,
 mv 32 1,
 o 33 (.p (.len (t 32))),
 o 34 (.p (.bin .lss (t 31) (t 33)))])
 (.cond (t 34)
 (.region 0 [1, 2, 7, 8, 9, 11, 12, 22, 23, 24] [
 mv 35 12,
 mv 36 1,
 mv 37 9,
 o 38 (.p (.indexAddr 1 (t 36) (t 37))),
 o 39 (.p (.load1 (t 38))),
 o 40 (.p (.bin .and (t 39) (.const (.int .u8 1)))),
 o 41 (.p (.conv .i64 (t 40))),
 o 42 (.p (.bin .add (t 35) (t 41))),
 mv 12 42])
 .skip))
 c_l20_ChainThins_r0)))))
 (.region 0 [1, 2, 7, 8, 22, 23, 24] [
 o 80 (.p (.bin .add (t 24) (.const (.int .i64 1)))),
 mv 24 80]))))
def c_l20_ChainThins_lp2 : CCode :=
 (.seq
 (.region 0 [8, 13, 124, 125, 126] [
 o 126 (.p (.bin .lss (t 125) (t 124)))])
 (.seq
 (.cond (t 126)
 .skip
 (.exit 4))
 (.seq
 (.block 5
 (.seq
 (.region 0 [8, 13, 14, 124, 125] [
 mv 127 125,
 mv 14 127])
 (.seq
 (.region 0 [8, 13, 124, 125, 137] [
 mv 128 13,
 mv 129 14,
 o 130 (.p (.indexAddr 6 (t 128) (t 129))),
 o 131 (.p (.loadN 6 (t 130))),
 mv 132 8,
 mv 133 14,
 o 134 (.p (.indexAddr 6 (t 132) (t 133))),
 o 135 (.p (.loadN 6 (t 134))),
 o 136 (.e (.call (.func 6) [t 131, t 135])),
 o 137 (.p (.un .not (t 136)))])
 (.cond (t 137)
 (.seq
 (.region 0 [6] [
 o 6 (.p (.move (.const (.bool false))))])
 .ret)
 .skip))))
 (.region 0 [8, 13, 124, 125] [
 o 138 (.p (.bin .add (t 125) (.const (.int .i64 1)))),
 mv 125 138]))))
def c_l20_ChainThins_r1 : CCode :=
 (.seq
 (.region 0 [8, 13] [
 o 116 (.p (.loadN 3 (t 7))),
 o 117 (.e (.call (.func 7) [t 116])),
 mv 13 117])
 (.seq
 (.seq
 (.region 0 [8, 13, 122] [
 mv 118 13,
 o 119 (.p (.len (t 118))),
 mv 120 8,
 o 121 (.p (.len (t 120))),
 o 122 (.p (.bin .neq (t 119) (t 121)))])
 (.cond (t 122)
 (.seq
 (.region 0 [6] [
 o 6 (.p (.move (.const (.bool false))))])
 .ret)
 .skip))
 (.seq
 (.seq
 (.region 0 [8, 13, 124, 125] [
 mv 123 13,
 o 124 (.p (.len (t 123))),
 o 125 (.p (.move (.const (.int .i64 0))))])
 (.block 4
 (.loop [8, 13, 124, 125] c_l20_ChainThins_lp2)))
 (.seq
 (.region 0 [6] [
 o 6 (.p (.move (.const (.bool true))))])
 .ret))))
def c_l20_ChainThins_r2 : CCode :=
 (.seq
 (.seq
 (.region 0 [7, 8, 109] [
 mv 104 2,
 mv 105 104,
 ⟨some 106, .p (.move (t 8)), (some (105, true)), none⟩,
 ⟨some 107, .p (.len (t 106)), (some (105, true)), none⟩,
 ⟨some 108, .p (.bin .gtr (t 107) (.const (.int .i64 1))), (some (105, true)), none⟩,
 o 109 (.p (.pick (t 105) (t 108) (.const (.bool false))))])
 (.cond (t 109)
 (.region 1 [7, 8] [
 mv 110 8,
 mv 111 8,
 o 112 (.p (.indexAddr 6 (t 111) (.const (.int .i64 0)))),
 o 113 (.p (.loadN 6 (t 112))),
 o 114 (.a 0 (.buildSlice 6 1 [.bool false, .slice none 0 0, .slice none 0 0, .bool false, .slice none 0 0, .slice none 0 0] [(0, 6, t 113)])),
 o 115 (.e (.append 6 112 (t 110) (t 114))),
 mv 8 115])
 .skip))
 c_l20_ChainThins_r1)
def c_l20_ChainThins : CFunc := ⟨false, 139, [.tmp 6],
 (.seq
 (.region 0 [0, 1, 2] [
 o 6 (.p (.move (.const (.bool false))))])
 (.seq
 (.seq
 (.region 0 [0, 1, 2, 16] [
 o 15 (.e (.call (.func 4) [])),
 o 16 (.p (.un .not (t 15)))])
 (.cond (t 16)
 (.seq
 (.region 0 [6] [
 o 6 (.p (.move (.const (.bool false))))])
 .ret)
 .skip))
 (.seq
 (.seq
 (.region 0 [0, 1, 2, 19] [
 mv 17 0,
 o 18 (.p (.len (t 17))),
 o 19 (.p (.bin .gtr (t 18) (.const (.int .i64 8))))])
 (.cond (t 19)
 (.seq
 (.region 0 [6] [
 o 6 (.p (.move (.const (.bool true))))])
 .ret)
 .skip))
 (.seq
 (.region 1 [0, 1, 2, 7] [
 mv 20 2,
 o 21 (.p (.build [.bool false, .slice none 0 0, .slice none 0 0] [(0, 1, t 20)])),
 o 7 (.a 0 (.alloc [.bool false, .slice none 0 0, .slice none 0 0])),
 p (.e (.store 3 (t 7) (t 21)))])
 (.seq
 (.region 0 [0, 1, 2, 7, 8] [
 o 8 (.p (.move (.const (.slice none 0 0))))])
 (.seq
 (.seq
 (.region 0 [1, 2, 7, 8, 22, 23, 24] [
 mv 22 0,
 o 23 (.p (.len (t 22))),
 o 24 (.p (.move (.const (.int .i64 0))))])
 (.block 0
 (.loop [1, 2, 7, 8, 22, 23, 24] c_l20_ChainThins_lp1)))
 (.seq
 (.seq
 (.region 0 [2, 7, 8, 98] [
 mv 81 2,
 mv 82 81,
 ⟨some 83, .p (.move (t 8)), (some (82, true)), none⟩,
 ⟨some 84, .p (.len (t 83)), (some (82, true)), none⟩,
 ⟨some 85, .p (.bin .gtr (t 84) (.const (.int .i64 1))), (some (82, true)), none⟩,
 o 86 (.p (.pick (t 82) (t 85) (.const (.bool false)))),
 mv 87 86,
 ⟨some 88, .p (.move (t 8)), (some (87, true)), none⟩,
 ⟨some 89, .p (.indexAddr 6 (t 88) (.const (.int .i64 0))), (some (87, true)), none⟩,
 ⟨some 90, .p (.loadN 6 (t 89)), (some (87, true)), none⟩,
 ⟨some 91, .p (.move (t 8)), (some (87, true)), none⟩,
 ⟨some 92, .p (.move (t 8)), (some (87, true)), none⟩,
 ⟨some 93, .p (.len (t 92)), (some (87, true)), none⟩,
 ⟨some 94, .p (.bin .sub (t 93) (.const (.int .i64 1))), (some (87, true)), none⟩,
 ⟨some 95, .p (.indexAddr 6 (t 91) (t 94)), (some (87, true)), none⟩,
 ⟨some 96, .p (.loadN 6 (t 95)), (some (87, true)), none⟩,
 ⟨some 97, .e (.call (.func 6) [t 90, t 96]), (some (87, true)), none⟩,
 o 98 (.p (.pick (t 87) (t 97) (.const (.bool false))))])
 (.cond (t 98)
 (.region 0 [2, 7, 8] [
 mv 99 8,
 mv 100 8,
 o 101 (.p (.len (t 100))),
 o 102 (.p (.bin .sub (t 101) (.const (.int .i64 1)))),
 o 103 (.p (.slice 6 (t 99) none (some (t 102)))),
 mv 8 103])
 .skip))
 c_l20_ChainThins_r2)))))))⟩

/-- isohyet/isohyetlaw20.fit -/
@[reducible] def n_l20_fit : Nat := 4
def c_l20_fit : CFunc := ⟨true, 48, [.tmp 0],
 (.seq
 (.region 0 [] [
 o 0 (.p (.move (.const (.bool false))))])
 (.seq
 (.region 3 [1] [
 o 6 (.p (.build [.int .i64 0, .int .i64 0] [])),
 o 7 (.p (.build [.int .i64 0, .int .i64 0] [(0, 1, .const (.int .i64 4))])),
 o 8 (.p (.build [.int .i64 0, .int .i64 0] [(0, 1, .const (.int .i64 4)), (1, 1, .const (.int .i64 4))])),
 o 9 (.p (.build [.int .i64 0, .int .i64 0] [(1, 1, .const (.int .i64 4))])),
 o 10 (.p (.build [.int .i64 0, .int .i64 0] [(0, 1, .const (.int .i64 2)), (1, 1, .const (.int .i64 2))])),
 o 11 (.a 0 (.buildSlice 2 5 [.int .i64 0, .int .i64 0] [(0, 2, t 6), (2, 2, t 7), (4, 2, t 8), (6, 2, t 9), (8, 2, t 10)])),
 o 12 (.p (.build [.int .i64 0, .int .i64 0] [])),
 o 13 (.e (.call (.func 8) [t 11, .const (.slice none 0 0), t 12])),
 mv 5 13,
 o 14 (.p (.extract (t 5) 0)),
 o 15 (.p (.extract (t 5) 1)),
 o 16 (.p (.extract (t 5) 2)),
 o 2 (.a 1 (.alloc [.int .i64 0, .int .i64 0])),
 o 3 (.a 2 (.alloc [.int .i64 0, .int .i64 0, .int .i64 0, .int .i64 0])),
 mv 1 14,
 p (.e (.store 2 (t 2) (t 15))),
 p (.e (.store 4 (t 3) (t 16)))])
 (.seq
 (.seq
 (.region 0 [1, 18] [
 mv 17 1,
 o 18 (.p (.eq false .ptr (t 17) (.const (.pointer none))))])
 (.cond (t 18)
 (.seq
 (.region 0 [0] [
 o 0 (.p (.move (.const (.bool false))))])
 .ret)
 .skip))
 (.seq
 (.region 1 [4] [
 mv 19 1,
 o 20 (.a 0 (.buildSlice 1 5 [.int .i64 0] [(0, 1, .const (.int .i64 0)), (1, 1, .const (.int .i64 0)), (2, 1, .const (.int .i64 0)), (3, 1, .const (.int .i64 0)), (4, 1, .const (.int .i64 4))])),
 o 21 (.e (.call (.func 10) [.const (.int .i64 2)])),
 o 22 (.e (.call (.func 9) [t 19, t 20, t 21])),
 mv 4 22])
 (.seq
 (.region 0 [0] [
 mv 23 4,
 o 24 (.p (.len (t 23))),
 o 25 (.p (.bin .eql (t 24) (.const (.int .i64 1)))),
 mv 26 25,
 ⟨some 27, .p (.move (t 4)), (some (26, true)), none⟩,
 ⟨some 28, .p (.indexAddr 3 (t 27) (.const (.int .i64 0))), (some (26, true)), none⟩,
 ⟨some 29, .p (.fieldAddr 0 (t 28)), (some (26, true)), none⟩,
 ⟨some 30, .p (.load1 (t 29)), (some (26, true)), none⟩,
 o 31 (.p (.pick (t 26) (t 30) (.const (.bool false)))),
 mv 32 31,
 ⟨some 33, .p (.move (t 4)), (some (32, true)), none⟩,
 ⟨some 34, .p (.indexAddr 3 (t 33) (.const (.int .i64 0))), (some (32, true)), none⟩,
 ⟨some 35, .p (.fieldAddr 2 (t 34)), (some (32, true)), none⟩,
 ⟨some 36, .p (.load1 (t 35)), (some (32, true)), none⟩,
 ⟨some 37, .p (.len (t 36)), (some (32, true)), none⟩,
 ⟨some 38, .p (.bin .eql (t 37) (.const (.int .i64 4))), (some (32, true)), none⟩,
 o 39 (.p (.pick (t 32) (t 38) (.const (.bool false)))),
 mv 40 39,
 ⟨some 41, .p (.move (t 4)), (some (40, true)), none⟩,
 ⟨some 42, .p (.indexAddr 3 (t 41) (.const (.int .i64 0))), (some (40, true)), none⟩,
 ⟨some 43, .p (.loadN 3 (t 42)), (some (40, true)), none⟩,
 ⟨some 44, .e (.call (.func 7) [t 43]), (some (40, true)), none⟩,
 ⟨some 45, .p (.len (t 44)), (some (40, true)), none⟩,
 ⟨some 46, .p (.bin .eql (t 45) (.const (.int .i64 5))), (some (40, true)), none⟩,
 o 47 (.p (.pick (t 40) (t 46) (.const (.bool false)))),
 mv 0 47])
 .ret)))))⟩

/-- isohyet/isohyetlaw07.Tame -/
@[reducible] def n_l07_Tame : Nat := 5
def c_l07_Tame : CFunc := ⟨true, 13, [.cellN 2 6],
 (.seq
 (.region 2 [1, 2] [
 o 1 (.a 0 (.box (t 0))),
 o 2 (.a 1 (.alloc [.bool false, .slice none 0 0, .slice none 0 0, .bool false, .slice none 0 0, .slice none 0 0]))])
 (.seq
 (.region 0 [1, 2, 3] [
 o 3 (.p (.move (.func 11)))])
 (.seq
 (.region 0 [2] [
 mv 4 3,
 o 5 (.p (.fieldAddr 0 (t 1))),
 o 6 (.p (.loadN 3 (t 5))),
 o 7 (.e (.call (t 4) [t 6])),
 mv 8 3,
 o 9 (.p (.fieldAddr 3 (t 1))),
 l 10 1 0 (.p (.loadN 3 (t 9))),
 o 11 (.e (.call (t 8) [t 10])),
 o 12 (.p (.build [.bool false, .slice none 0 0, .slice none 0 0, .bool false, .slice none 0 0, .slice none 0 0] [(0, 3, t 7), (3, 3, t 11)])),
 p (.e (.store 6 (t 2) (t 12)))])
 .ret)))⟩

/-- isohyet/spot.Same -/
@[reducible] def n_spot_Same : Nat := 6
def c_spot_Same : CFunc := ⟨true, 17, [.tmp 4],
 (.seq
 (.region 2 [2, 3] [
 o 2 (.a 0 (.box (t 0))),
 o 3 (.a 1 (.box (t 1))),
 o 4 (.p (.move (.const (.bool false))))])
 (.seq
 (.region 0 [4] [
 o 5 (.p (.fieldAddr 0 (t 2))),
 o 6 (.p (.loadN 3 (t 5))),
 o 7 (.p (.fieldAddr 0 (t 3))),
 o 8 (.p (.loadN 3 (t 7))),
 o 9 (.e (.call (.func 14) [t 6, t 8])),
 mv 10 9,
 ⟨some 11, .p (.fieldAddr 3 (t 2)), (some (10, true)), none⟩,
 ⟨some 12, .p (.loadN 3 (t 11)), (some (10, true)), none⟩,
 ⟨some 13, .p (.fieldAddr 3 (t 3)), (some (10, true)), none⟩,
 ⟨some 14, .p (.loadN 3 (t 13)), (some (10, true)), none⟩,
 ⟨some 15, .e (.call (.func 14) [t 12, t 14]), (some (10, true)), none⟩,
 o 16 (.p (.pick (t 10) (t 15) (.const (.bool false)))),
 mv 4 16])
 .ret))⟩

/-- isohyet/chain.Thin -/
@[reducible] def n_chain_Thin : Nat := 7
def c_chain_Thin_lp0 : CCode :=
 (.seq
 (.region 0 [1, 3, 8, 9, 10, 11] [
 o 11 (.p (.bin .lss (t 10) (t 9)))])
 (.seq
 (.cond (t 11)
 .skip
 (.exit 0))
 (.seq
 (.block 1
 (.seq
 (.region 1 [1, 3, 5, 8, 9, 10] [
 o 12 (.p (.indexAddr 6 (t 8) (t 10))),
 o 13 (.p (.loadN 6 (t 12))),
 o 5 (.a 0 (.alloc [.bool false, .slice none 0 0, .slice none 0 0, .bool false, .slice none 0 0, .slice none 0 0])),
 p (.e (.store 6 (t 5) (t 13)))])
 (.seq
 (.region 0 [1, 3, 5, 8, 9, 10, 27] [
 mv 14 3,
 o 15 (.p (.len (t 14))),
 o 16 (.p (.bin .eql (t 15) (.const (.int .i64 0)))),
 mv 17 16,
 ⟨some 18, .p (.move (t 3)), (some (17, false)), none⟩,
 ⟨some 19, .p (.move (t 3)), (some (17, false)), none⟩,
 ⟨some 20, .p (.len (t 19)), (some (17, false)), none⟩,
 ⟨some 21, .p (.bin .sub (t 20) (.const (.int .i64 1))), (some (17, false)), none⟩,
 ⟨some 22, .p (.indexAddr 6 (t 18) (t 21)), (some (17, false)), none⟩,
 ⟨some 23, .p (.loadN 6 (t 22)), (some (17, false)), none⟩,
 ⟨some 24, .p (.loadN 6 (t 5)), (some (17, false)), none⟩,
 ⟨some 25, .e (.call (.func 6) [t 23, t 24]), (some (17, false)), none⟩,
 ⟨some 26, .p (.un .not (t 25)), (some (17, false)), none⟩,
 o 27 (.p (.pick (t 17) (.const (.bool true)) (t 26)))])
 (.cond (t 27)
 (.region 1 [1, 3, 8, 9, 10] [
 mv 28 3,
 o 29 (.p (.loadN 6 (t 5))),
 o 30 (.a 0 (.buildSlice 6 1 [.bool false, .slice none 0 0, .slice none 0 0, .bool false, .slice none 0 0, .slice none 0 0] [(0, 6, t 29)])),
 o 31 (.e (.append 6 112 (t 28) (t 30))),
 mv 3 31])
 .skip))))
 (.region 0 [1, 3, 8, 9, 10] [
 o 32 (.p (.bin .add (t 10) (.const (.int .i64 1)))),
 mv 10 32]))))
def c_chain_Thin_r0 : CCode :=
 (.seq
 (.region 0 [3, 56] [
 mv 54 3,
 o 55 (.p (.len (t 54))),
 o 56 (.p (.bin .gtr (t 55) (.const (.int .i64 1))))])
 (.cond (t 56)
 (.region 1 [3] [
 mv 57 3,
 mv 58 3,
 o 59 (.p (.indexAddr 6 (t 58) (.const (.int .i64 0)))),
 o 60 (.p (.loadN 6 (t 59))),
 o 61 (.a 0 (.buildSlice 6 1 [.bool false, .slice none 0 0, .slice none 0 0, .bool false, .slice none 0 0, .slice none 0 0] [(0, 6, t 60)])),
 o 62 (.e (.append 6 112 (t 57) (t 61))),
 mv 3 62])
 .skip))
def c_chain_Thin_r1 : CCode :=
 (.seq
 (.region 0 [2] [
 mv 63 3,
 mv 2 63])
 .ret)
def c_chain_Thin : CFunc := ⟨true, 64, [.tmp 2],
 (.seq
 (.region 1 [1] [
 o 1 (.a 0 (.box (t 0))),
 o 2 (.p (.move (.const (.slice none 0 0))))])
 (.seq
 (.region 0 [1, 3] [
 o 3 (.p (.move (.const (.slice none 0 0))))])
 (.seq
 (.seq
 (.region 0 [1, 3, 8, 9, 10] [
 o 7 (.p (.fieldAddr 2 (t 1))),
 o 8 (.p (.load1 (t 7))),
 o 9 (.p (.len (t 8))),
 o 10 (.p (.move (.const (.int .i64 0))))])
 (.block 0
 (.loop [1, 3, 8, 9, 10] c_chain_Thin_lp0)))
 (.seq
 (.seq
 (.region 0 [1, 3, 6] [
 mv 33 3,
 o 34 (.p (.len (t 33))),
 mv 6 34])
 (.seq
 (.region 0 [3, 6, 40] [
 o 35 (.p (.fieldAddr 0 (t 1))),
 o 36 (.p (.load1 (t 35))),
 mv 37 36,
 ⟨some 38, .p (.move (t 6)), (some (37, true)), none⟩,
 ⟨some 39, .p (.bin .gtr (t 38) (.const (.int .i64 1))), (some (37, true)), none⟩,
 o 40 (.p (.pick (t 37) (t 39) (.const (.bool false))))])
 (.cond (t 40)
 (.seq
 (.seq
 (.region 0 [3, 6, 49] [
 mv 41 3,
 o 42 (.p (.indexAddr 6 (t 41) (.const (.int .i64 0)))),
 o 43 (.p (.loadN 6 (t 42))),
 mv 44 3,
 mv 45 6,
 o 46 (.p (.bin .sub (t 45) (.const (.int .i64 1)))),
 o 47 (.p (.indexAddr 6 (t 44) (t 46))),
 o 48 (.p (.loadN 6 (t 47))),
 o 49 (.e (.call (.func 6) [t 43, t 48]))])
 (.cond (t 49)
 (.region 0 [3] [
 mv 50 3,
 mv 51 6,
 o 52 (.p (.bin .sub (t 51) (.const (.int .i64 1)))),
 o 53 (.p (.slice 6 (t 50) none (some (t 52)))),
 mv 3 53])
 .skip))
 c_chain_Thin_r0)
 .skip)))
 c_chain_Thin_r1))))⟩

/-- isohyet/isohyetlaw14.Scene -/
@[reducible] def n_l14_Scene : Nat := 8
def c_l14_Scene_lp0 : CCode :=
 (.seq
 (.region 0 [5, 7, 8, 10, 35, 36, 37, 38] [
 o 38 (.p (.bin .lss (t 37) (t 36)))])
 (.seq
 (.cond (t 38)
 .skip
 (.exit 0))
 (.seq
 (.block 1
 (.seq
 (.region 1 [5, 7, 8, 10, 13, 35, 36, 37] [
 o 39 (.p (.indexAddr 2 (t 35) (t 37))),
 o 40 (.p (.loadN 2 (t 39))),
 o 13 (.a 0 (.alloc [.int .i64 0, .int .i64 0])),
 p (.e (.store 2 (t 13) (t 40)))])
 (.region 0 [5, 7, 8, 10, 35, 36, 37] [
 mv 41 10,
 o 42 (.p (.indexAddrA 2 1 (t 13) (.const (.int .i64 0)))),
 o 43 (.p (.load1 (t 42))),
 o 44 (.p (.indexAddrA 2 1 (t 13) (.const (.int .i64 1)))),
 o 45 (.p (.load1 (t 44))),
 o 46 (.e (.call (.func 18) [t 41, t 43, t 45]))])))
 (.region 0 [5, 7, 8, 10, 35, 36, 37] [
 o 47 (.p (.bin .add (t 37) (.const (.int .i64 1)))),
 mv 37 47]))))
def c_l14_Scene : CFunc := ⟨false, 53, [.tmp 6, .cellN 7 2, .cellN 8 4],
 (.seq
 (.region 3 [0, 1, 5, 7, 8] [
 o 5 (.a 0 (.box (t 2))),
 o 6 (.p (.move (.const (.pointer none)))),
 o 7 (.a 1 (.alloc [.int .i64 0, .int .i64 0])),
 o 8 (.a 2 (.alloc [.int .i64 0, .int .i64 0, .int .i64 0, .int .i64 0]))])
 (.seq
 (.region 0 [1, 5, 7, 8, 9] [
 mv 14 0,
 o 15 (.e (.call (.func 15) [t 14, .const (.int .i64 11)])),
 mv 9 15])
 (.seq
 (.region 0 [1, 5, 7, 8, 9] [
 o 16 (.p (.fieldAddr 0 (t 5))),
 o 17 (.p (.load1 (t 16))),
 o 18 (.p (.bin .and (t 17) (.const (.int .i64 15)))),
 o 19 (.p (.fieldAddr 1 (t 5))),
 o 20 (.p (.load1 (t 19))),
 o 21 (.p (.bin .and (t 20) (.const (.int .i64 15)))),
 o 22 (.p (.build [.int .i64 0, .int .i64 0] [(0, 1, t 18), (1, 1, t 21)])),
 p (.e (.store 2 (t 5) (t 22)))])
 (.seq
 (.region 0 [1, 5, 7, 8, 9, 10, 11] [
 mv 24 9,
 o 25 (.e (.call (.func 16) [t 24])),
 mv 23 25,
 o 26 (.p (.extract (t 23) 0)),
 o 27 (.p (.extract (t 23) 1)),
 mv 10 26,
 mv 11 27])
 (.seq
 (.seq
 (.region 0 [1, 5, 7, 8, 9, 10, 29] [
 mv 28 11,
 o 29 (.p (.un .not (t 28)))])
 (.cond (t 29)
 (.seq
 (.region 0 [6, 7, 8] [
 o 30 (.p (.loadN 2 (t 5))),
 o 31 (.p (.build [.int .i64 0, .int .i64 0, .int .i64 0, .int .i64 0] [(0, 1, .const (.int .i64 3))])),
 o 6 (.p (.move (.const (.pointer none)))),
 p (.e (.store 2 (t 7) (t 30))),
 p (.e (.store 4 (t 8) (t 31)))])
 .ret)
 .skip))
 (.seq
 (.seq
 (.region 0 [5, 7, 8, 10, 35, 36, 37] [
 mv 32 1,
 mv 33 9,
 o 34 (.p (.len (t 33))),
 o 35 (.e (.call (.func 17) [t 32, t 34, .const (.int .i64 4)])),
 o 36 (.p (.len (t 35))),
 o 37 (.p (.move (.const (.int .i64 0))))])
 (.block 0
 (.loop [5, 7, 8, 10, 35, 36, 37] c_l14_Scene_lp0)))
 (.seq
 (.region 0 [6, 7, 8] [
 mv 48 10,
 l 49 0 1 (.p (.loadN 2 (t 5))),
 mv 50 10,
 o 51 (.p (.loadN 2 (t 5))),
 o 52 (.e (.call (.func 19) [t 50, t 51])),
 mv 6 48,
 p (.e (.store 2 (t 7) (t 49))),
 p (.e (.store 4 (t 8) (t 52)))])
 .ret)))))))⟩

/-- isohyet/chain.Trace -/
@[reducible] def n_chain_Trace : Nat := 9
def c_chain_Trace_0a : CCode :=
 (.region 1 [7, 8] [
 o 8 (.a 0 (.alloc [.int .i64 0, .int .i64 0, .int .i64 0, .int .i64 0, .int .i64 0])),
 p (.e (.store 5 (t 8) (t 28)))])
def c_chain_Trace_0b : CCode :=
 (.block 1
 (.seq
 (.region 0 [7, 8] [
 o 29 (.p (.load1 (t 7))),
 o 30 (.p (.nilCheck (t 29))),
 o 31 (.p (.fieldAddr 0 (t 30))),
 o 32 (.p (.load1 (t 31))),
 o 33 (.p (.fieldAddr 1 (t 8))),
 o 34 (.p (.loadN 2 (t 33))),
 o 35 (.p (.fieldAddr 3 (t 8))),
 o 36 (.p (.loadN 2 (t 35))),
 p (.e (.mapUpdate (.agg [true, true]) (t 32) (t 34) (t 36)))])
 (.region 0 [] [
 o 37 (.p (.load1 (t 7))),
 o 38 (.p (.nilCheck (t 37))),
 o 39 (.p (.fieldAddr 1 (t 38))),
 o 40 (.p (.load1 (t 39))),
 o 41 (.p (.fieldAddr 3 (t 8))),
 o 42 (.p (.loadN 2 (t 41))),
 p (.e (.mapUpdate (.agg [true, true]) (t 40) (t 42) (.const (.bool true))))])))
def c_chain_Trace_lp0 : CCode :=
 (.seq
 (.region 0 [0, 1, 5, 7, 9, 10, 47, 48, 49, 50] [
 o 50 (.p (.bin .lss (t 49) (t 48)))])
 (.seq
 (.cond (t 50)
 .skip
 (.exit 2))
 (.seq
 (.block 3
 (.seq
 (.region 1 [0, 1, 5, 7, 9, 10, 12, 47, 48, 49] [
 o 51 (.p (.indexAddr 2 (t 47) (t 49))),
 o 52 (.p (.loadN 2 (t 51))),
 o 12 (.a 0 (.alloc [.int .i64 0, .int .i64 0])),
 p (.e (.store 2 (t 12) (t 52)))])
 (.seq
 (.region 0 [0, 1, 5, 7, 9, 10, 12, 47, 48, 49, 59] [
 o 53 (.p (.load1 (t 7))),
 o 54 (.p (.nilCheck (t 53))),
 o 55 (.p (.fieldAddr 1 (t 54))),
 o 56 (.p (.load1 (t 55))),
 o 57 (.p (.loadN 2 (t 12))),
 o 58 (.p (.lookup (.agg [true, true]) (.bool false) false (t 56) (t 57))),
 o 59 (.p (.un .not (t 58)))])
 (.cond (t 59)
 (.region 1 [0, 1, 5, 7, 9, 10, 47, 48, 49] [
 mv 60 10,
 o 61 (.p (.load1 (t 7))),
 o 62 (.p (.loadN 2 (t 12))),
 o 63 (.e (.call (.func 22) [t 61, t 62])),
 o 64 (.a 0 (.buildSlice 3 1 [.bool false, .slice none 0 0, .slice none 0 0] [(0, 3, t 63)])),
 o 65 (.e (.append 3 56 (t 60) (t 64))),
 mv 10 65])
 .skip))))
 (.region 0 [0, 1, 5, 7, 9, 10, 47, 48, 49] [
 o 66 (.p (.bin .add (t 49) (.const (.int .i64 1)))),
 mv 49 66]))))
def c_chain_Trace_lp1 : CCode :=
 (.seq
 (.region 0 [0, 1, 5, 7, 10, 67, 68, 69, 70] [
 o 70 (.p (.bin .lss (t 69) (t 68)))])
 (.seq
 (.cond (t 70)
 .skip
 (.exit 4))
 (.seq
 (.block 5
 (.seq
 (.region 1 [0, 1, 5, 7, 10, 14, 67, 68, 69] [
 o 71 (.p (.indexAddr 2 (t 67) (t 69))),
 o 72 (.p (.loadN 2 (t 71))),
 o 14 (.a 0 (.alloc [.int .i64 0, .int .i64 0])),
 p (.e (.store 2 (t 14) (t 72)))])
 (.seq
 (.region 0 [0, 1, 5, 7, 10, 14, 67, 68, 69, 79] [
 o 73 (.p (.load1 (t 7))),
 o 74 (.p (.nilCheck (t 73))),
 o 75 (.p (.fieldAddr 2 (t 74))),
 o 76 (.p (.load1 (t 75))),
 o 77 (.p (.loadN 2 (t 14))),
 o 78 (.p (.lookup (.agg [true, true]) (.bool false) false (t 76) (t 77))),
 o 79 (.p (.un .not (t 78)))])
 (.cond (t 79)
 (.region 1 [0, 1, 5, 7, 10, 67, 68, 69] [
 mv 80 10,
 o 81 (.p (.load1 (t 7))),
 o 82 (.p (.loadN 2 (t 14))),
 o 83 (.e (.call (.func 22) [t 81, t 82])),
 o 84 (.a 0 (.buildSlice 3 1 [.bool false, .slice none 0 0, .slice none 0 0] [(0, 3, t 83)])),
 o 85 (.e (.append 3 56 (t 80) (t 84))),
 mv 10 85])
 .skip))))
 (.region 0 [0, 1, 5, 7, 10, 67, 68, 69] [
 o 86 (.p (.bin .add (t 69) (.const (.int .i64 1)))),
 mv 69 86]))))
def c_chain_Trace_lp2 : CCode :=
 (.seq
 (.region 0 [0, 1, 5, 10, 16, 88, 89, 98, 99, 100, 101] [
 o 101 (.p (.bin .lss (t 100) (t 99)))])
 (.seq
 (.cond (t 101)
 .skip
 (.exit 8))
 (.seq
 (.block 9
 (.seq
 (.region 1 [0, 1, 5, 10, 16, 18, 88, 89, 98, 99, 100] [
 o 102 (.p (.indexAddr 2 (t 98) (t 100))),
 o 103 (.p (.loadN 2 (t 102))),
 o 18 (.a 0 (.alloc [.int .i64 0, .int .i64 0])),
 p (.e (.store 2 (t 18) (t 103)))])
 (.region 1 [0, 1, 5, 10, 16, 88, 89, 98, 99, 100] [
 mv 104 16,
 mv 105 16,
 o 106 (.p (.nilCheck (t 105))),
 o 107 (.p (.fieldAddr 2 (t 106))),
 l 108 0 1 (.p (.load1 (t 107))),
 mv 109 0,
 mv 110 1,
 o 111 (.p (.indexAddrA 2 1 (t 18) (.const (.int .i64 0)))),
 o 112 (.p (.load1 (t 111))),
 o 113 (.p (.indexAddrA 2 1 (t 18) (.const (.int .i64 1)))),
 o 114 (.p (.load1 (t 113))),
 o 115 (.p (.loadN 3 (t 5))),
 o 116 (.e (.call (.func 23) [t 109, t 110, t 112, t 114, t 115])),
 o 117 (.a 0 (.buildSlice 6 1 [.bool false, .slice none 0 0, .slice none 0 0, .bool false, .slice none 0 0, .slice none 0 0] [(0, 6, t 116)])),
 o 118 (.e (.append 6 112 (t 108) (t 117))),
 o 119 (.p (.nilCheck (t 104))),
 o 120 (.p (.fieldAddr 2 (t 119))),
 p (.e (.store 1 (t 120) (t 118)))])))
 (.region 0 [0, 1, 5, 10, 16, 88, 89, 98, 99, 100] [
 o 121 (.p (.bin .add (t 100) (.const (.int .i64 1)))),
 mv 100 121]))))
def c_chain_Trace_lp3 : CCode :=
 (.seq
 (.region 0 [0, 1, 5, 10, 88, 89, 90] [
 o 90 (.p (.bin .lss (t 89) (t 88)))])
 (.seq
 (.cond (t 90)
 .skip
 (.exit 6))
 (.seq
 (.block 7
 (.seq
 (.region 0 [0, 1, 5, 10, 15, 88, 89] [
 mv 91 89,
 mv 15 91])
 (.seq
 (.region 0 [0, 1, 5, 10, 16, 88, 89] [
 mv 92 10,
 mv 93 15,
 o 94 (.p (.indexAddr 3 (t 92) (t 93))),
 mv 16 94])
 (.seq
 (.region 0 [0, 1, 5, 10, 16, 88, 89, 98, 99, 100] [
 mv 95 16,
 o 96 (.p (.nilCheck (t 95))),
 o 97 (.p (.fieldAddr 1 (t 96))),
 o 98 (.p (.load1 (t 97))),
 o 99 (.p (.len (t 98))),
 o 100 (.p (.move (.const (.int .i64 0))))])
 (.block 8
 (.loop [0, 1, 5, 10, 16, 88, 89, 98, 99, 100] c_chain_Trace_lp2))))))
 (.region 0 [0, 1, 5, 10, 88, 89] [
 o 122 (.p (.bin .add (t 89) (.const (.int .i64 1)))),
 mv 89 122]))))
def c_chain_Trace : CFunc := ⟨true, 124, [.tmp 6],
 (.seq
 (.region 1 [0, 1, 5, 6] [
 o 5 (.a 0 (.box (t 2))),
 o 6 (.p (.move (.const (.slice none 0 0))))])
 (.seq
 (.region 5 [0, 1, 5, 6, 7] [
 o 19 (.a 0 (.makeMap)),
 o 20 (.a 1 (.makeMap)),
 o 21 (.a 2 (.makeMap)),
 o 22 (.p (.build [.map none, .map none, .map none] [(0, 1, t 19), (1, 1, t 20), (2, 1, t 21)])),
 o 23 (.a 3 (.box (t 22))),
 o 7 (.a 4 (.alloc [.pointer none])),
 p (.e (.store 1 (t 7) (t 23)))])
 (.seq
 (.seq
 (.region 0 [0, 1, 5, 6, 7, 27] [
 mv 24 0,
 mv 25 1,
 o 26 (.p (.loadN 3 (t 5))),
 o 27 (.e (.call (.func 20) [t 24, t 25, t 26]))])
 (.block 0
 (.rangeFunc (t 27) [28] c_chain_Trace_0a c_chain_Trace_0b)))
 (.seq
 (.region 0 [0, 1, 5, 7, 9] [
 mv 43 0,
 mv 44 1,
 o 45 (.p (.loadN 3 (t 5))),
 o 46 (.e (.call (.func 21) [t 43, t 44, t 45])),
 mv 9 46])
 (.seq
 (.region 0 [0, 1, 5, 7, 9, 10] [
 o 10 (.p (.move (.const (.slice none 0 0))))])
 (.seq
 (.seq
 (.region 0 [0, 1, 5, 7, 9, 10, 47, 48, 49] [
 mv 47 9,
 o 48 (.p (.len (t 47))),
 o 49 (.p (.move (.const (.int .i64 0))))])
 (.block 2
 (.loop [0, 1, 5, 7, 9, 10, 47, 48, 49] c_chain_Trace_lp0)))
 (.seq
 (.seq
 (.region 0 [0, 1, 5, 7, 10, 67, 68, 69] [
 mv 67 9,
 o 68 (.p (.len (t 67))),
 o 69 (.p (.move (.const (.int .i64 0))))])
 (.block 4
 (.loop [0, 1, 5, 7, 10, 67, 68, 69] c_chain_Trace_lp1)))
 (.seq
 (.seq
 (.region 0 [0, 1, 5, 10, 88, 89] [
 mv 87 10,
 o 88 (.p (.len (t 87))),
 o 89 (.p (.move (.const (.int .i64 0))))])
 (.block 6
 (.loop [0, 1, 5, 10, 88, 89] c_chain_Trace_lp3)))
 (.seq
 (.region 0 [6] [
 mv 123 10,
 mv 6 123])
 .ret)))))))))⟩

/-- isohyet/frac.Of -/
@[reducible] def n_frac_Of : Nat := 10
def c_frac_Of : CFunc := ⟨true, 6, [.cellN 2 3],
 (.seq
 (.region 1 [0, 2] [
 o 2 (.a 0 (.alloc [.bool false, .slice none 0 0, .slice none 0 0]))])
 (.seq
 (.region 0 [2] [
 mv 3 0,
 o 4 (.e (.call (.func 25) [t 3])),
 o 5 (.e (.call (.func 24) [t 4])),
 p (.e (.store 3 (t 2) (t 5)))])
 .ret))⟩

/-- isohyet/isohyetlaw07.Tame$1 -/
@[reducible] def n_l07_Tame_1 : Nat := 11
def c_l07_Tame_1 : CFunc := ⟨true, 34, [.cellN 2 3],
 (.seq
 (.region 2 [1, 2] [
 o 1 (.a 0 (.box (t 0))),
 o 2 (.a 1 (.alloc [.bool false, .slice none 0 0, .slice none 0 0]))])
 (.seq
 (.region 1 [2, 3, 4] [
 o 6 (.p (.fieldAddr 0 (t 1))),
 o 7 (.p (.fieldAddr 0 (t 6))),
 o 8 (.p (.load1 (t 7))),
 o 9 (.p (.fieldAddr 0 (t 1))),
 o 10 (.p (.fieldAddr 1 (t 9))),
 o 11 (.p (.load1 (t 10))),
 o 12 (.p (.fieldAddr 0 (t 1))),
 o 13 (.p (.fieldAddr 1 (t 12))),
 o 14 (.p (.load1 (t 13))),
 o 15 (.p (.len (t 14))),
 o 16 (.p (.min [t 15, .const (.int .i64 1)])),
 o 17 (.p (.slice 1 (t 11) none (some (t 16)))),
 o 18 (.e (.call (.func 13) [t 8, t 17])),
 o 19 (.p (.fieldAddr 2 (t 1))),
 l 20 1 0 (.p (.load1 (t 19))),
 o 21 (.p (.fieldAddr 2 (t 1))),
 l 22 1 0 (.p (.load1 (t 21))),
 o 23 (.p (.len (t 22))),
 o 24 (.p (.min [t 23, .const (.int .i64 1)])),
 o 25 (.p (.slice 1 (t 20) none (some (t 24)))),
 o 26 (.e (.call (.func 13) [.const (.bool false), t 25])),
 o 27 (.e (.call (.func 12) [t 18, t 26])),
 mv 5 27,
 o 28 (.p (.extract (t 5) 0)),
 o 29 (.p (.extract (t 5) 1)),
 o 3 (.a 0 (.alloc [.bool false, .slice none 0 0, .slice none 0 0])),
 p (.e (.store 3 (t 3) (t 28))),
 mv 4 29])
 (.seq
 (.seq
 (.region 0 [2, 3, 31] [
 mv 30 4,
 o 31 (.p (.un .not (t 30)))])
 (.cond (t 31)
 (.seq
 (.region 0 [2] [
 o 32 (.e (.call (.func 10) [.const (.int .i64 0)])),
 p (.e (.store 3 (t 2) (t 32)))])
 .ret)
 .skip))
 (.seq
 (.region 0 [2] [
 o 33 (.p (.loadN 3 (t 3))),
 p (.e (.store 3 (t 2) (t 33)))])
 .ret))))⟩

/-- isohyet/frac.Make -/
@[reducible] def n_frac_Make : Nat := 12
def c_frac_Make : CFunc := ⟨true, 21, [.cellN 4 3, .tmp 5],
 (.seq
 (.region 3 [2, 3, 4] [
 o 2 (.a 0 (.box (t 0))),
 o 3 (.a 1 (.box (t 1))),
 o 4 (.a 2 (.alloc [.bool false, .slice none 0 0, .slice none 0 0])),
 o 5 (.p (.move (.const (.bool false))))])
 (.seq
 (.seq
 (.region 0 [2, 3, 4, 8] [
 o 6 (.p (.loadN 2 (t 3))),
 o 7 (.e (.call (.func 26) [t 6])),
 o 8 (.p (.bin .eql (t 7) (.const (.int .i64 0))))])
 (.cond (t 8)
 (.seq
 (.region 0 [4, 5] [
 o 9 (.e (.call (.func 10) [.const (.int .i64 0)])),
 p (.e (.store 3 (t 4) (t 9))),
 o 5 (.p (.move (.const (.bool false))))])
 .ret)
 .skip))
 (.seq
 (.region 0 [4, 5] [
 o 10 (.p (.fieldAddr 0 (t 2))),
 o 11 (.p (.load1 (t 10))),
 o 12 (.p (.fieldAddr 0 (t 3))),
 o 13 (.p (.load1 (t 12))),
 o 14 (.p (.eq true .bool (t 11) (t 13))),
 o 15 (.p (.fieldAddr 1 (t 2))),
 o 16 (.p (.load1 (t 15))),
 o 17 (.e (.call (.func 13) [t 14, t 16])),
 o 18 (.p (.fieldAddr 1 (t 3))),
 l 19 1 0 (.p (.load1 (t 18))),
 o 20 (.e (.call (.func 27) [t 17, t 19])),
 p (.e (.store 3 (t 4) (t 20))),
 o 5 (.p (.move (.const (.bool true))))])
 .ret)))⟩

/-- isohyet/num.Make -/
@[reducible] def n_num_Make : Nat := 13
def c_num_Make : CFunc := ⟨true, 15, [.cellN 4 2],
 (.seq
 (.region 1 [0, 1, 4] [
 o 4 (.a 0 (.alloc [.bool false, .slice none 0 0]))])
 (.seq
 (.region 0 [0, 1, 4] [
 mv 5 1,
 o 6 (.e (.call (.func 28) [t 5, .const (.slice none 0 0)])),
 mv 1 6])
 (.seq
 (.region 0 [4] [
 mv 7 0,
 mv 8 7,
 ⟨some 9, .p (.move (t 1)), (some (8, true)), none⟩,
 ⟨some 10, .p (.len (t 9)), (some (8, true)), none⟩,
 ⟨some 11, .p (.bin .gtr (t 10) (.const (.int .i64 0))), (some (8, true)), none⟩,
 o 12 (.p (.pick (t 8) (t 11) (.const (.bool false)))),
 mv 13 1,
 o 14 (.p (.build [.bool false, .slice none 0 0] [(0, 1, t 12), (1, 1, t 13)])),
 p (.e (.store 2 (t 4) (t 14)))])
 .ret)))⟩

/-- isohyet/frac.Same -/
@[reducible] def n_frac_Same : Nat := 14
def c_frac_Same : CFunc := ⟨true, 9, [.tmp 4],
 (.seq
 (.region 2 [2, 3] [
 o 2 (.a 0 (.box (t 0))),
 o 3 (.a 1 (.box (t 1))),
 o 4 (.p (.move (.const (.bool false))))])
 (.seq
 (.region 0 [4] [
 o 5 (.p (.loadN 3 (t 2))),
 o 6 (.p (.loadN 3 (t 3))),
 o 7 (.e (.call (.func 29) [t 5, t 6])),
 o 8 (.p (.bin .eql (t 7) (.const (.int .i64 0)))),
 mv 4 8])
 .ret))⟩

/-- isohyet/isohyetlaw14.Small -/
@[reducible] def n_l14_Small : Nat := 15
def c_l14_Small_lp0 : CCode :=
 (.seq
 (.region 0 [1, 5, 8, 9, 10, 11] [
 o 11 (.p (.bin .lss (t 10) (t 9)))])
 (.seq
 (.cond (t 11)
 .skip
 (.exit 0))
 (.seq
 (.block 1
 (.seq
 (.region 1 [1, 5, 7, 8, 9, 10] [
 o 12 (.p (.indexAddr 2 (t 8) (t 10))),
 o 13 (.p (.loadN 2 (t 12))),
 o 7 (.a 0 (.alloc [.int .i64 0, .int .i64 0])),
 p (.e (.store 2 (t 7) (t 13)))])
 (.region 1 [1, 5, 8, 9, 10] [
 mv 14 5,
 o 15 (.p (.fieldAddr 0 (t 7))),
 o 16 (.p (.load1 (t 15))),
 o 17 (.p (.bin .and (t 16) (.const (.int .i64 15)))),
 o 18 (.p (.fieldAddr 1 (t 7))),
 o 19 (.p (.load1 (t 18))),
 o 20 (.p (.bin .and (t 19) (.const (.int .i64 15)))),
 o 21 (.p (.build [.int .i64 0, .int .i64 0] [(0, 1, t 17), (1, 1, t 20)])),
 o 22 (.a 0 (.buildSlice 2 1 [.int .i64 0, .int .i64 0] [(0, 2, t 21)])),
 o 23 (.e (.append 2 16 (t 14) (t 22))),
 mv 5 23])))
 (.region 0 [1, 5, 8, 9, 10] [
 o 24 (.p (.bin .add (t 10) (.const (.int .i64 1)))),
 mv 10 24]))))
def c_l14_Small : CFunc := ⟨true, 28, [.tmp 4],
 (.seq
 (.region 0 [0, 1] [
 o 4 (.p (.move (.const (.slice none 0 0))))])
 (.seq
 (.region 0 [0, 1, 5] [
 o 5 (.p (.move (.const (.slice none 0 0))))])
 (.seq
 (.seq
 (.region 0 [1, 5, 8, 9, 10] [
 mv 8 0,
 o 9 (.p (.len (t 8))),
 o 10 (.p (.move (.const (.int .i64 0))))])
 (.block 0
 (.loop [1, 5, 8, 9, 10] c_l14_Small_lp0)))
 (.seq
 (.region 0 [4] [
 mv 25 5,
 mv 26 1,
 o 27 (.e (.call (.func 30) [t 25, t 26])),
 mv 4 27])
 .ret))))⟩

/-- isohyet/grow.Build -/
@[reducible] def n_grow_Build : Nat := 16
def c_grow_Build_lp0 : CCode :=
 (.seq
 (.region 0 [4, 6, 8, 31, 32, 33] [
 o 33 (.p (.bin .lss (t 32) (t 31)))])
 (.seq
 (.cond (t 33)
 .skip
 (.exit 0))
 (.seq
 (.block 1
 (.seq
 (.region 0 [4, 6, 8, 9, 31, 32] [
 mv 34 32,
 mv 9 34])
 (.seq
 (.region 0 [4, 6, 8, 9, 31, 32, 50] [
 mv 35 9,
 o 36 (.p (.indexAddrA 3 1 (t 4) (.const (.int .i64 0)))),
 o 37 (.p (.load1 (t 36))),
 o 38 (.p (.bin .neq (t 35) (t 37))),
 mv 39 38,
 ⟨some 40, .p (.move (t 9)), (some (39, true)), none⟩,
 ⟨some 41, .p (.indexAddrA 3 1 (t 4) (.const (.int .i64 1))), (some (39, true)), none⟩,
 ⟨some 42, .p (.load1 (t 41)), (some (39, true)), none⟩,
 ⟨some 43, .p (.bin .neq (t 40) (t 42)), (some (39, true)), none⟩,
 o 44 (.p (.pick (t 39) (t 43) (.const (.bool false)))),
 mv 45 44,
 ⟨some 46, .p (.move (t 9)), (some (45, true)), none⟩,
 ⟨some 47, .p (.indexAddrA 3 1 (t 4) (.const (.int .i64 2))), (some (45, true)), none⟩,
 ⟨some 48, .p (.load1 (t 47)), (some (45, true)), none⟩,
 ⟨some 49, .p (.bin .neq (t 46) (t 48)), (some (45, true)), none⟩,
 o 50 (.p (.pick (t 45) (t 49) (.const (.bool false))))])
 (.cond (t 50)
 (.seq
 (.region 0 [4, 6, 9, 31, 32] [
 mv 51 6,
 mv 52 9,
 mv 53 6,
 mv 54 8,
 o 55 (.e (.call (.func 34) [t 53, t 54])),
 o 56 (.e (.call (.func 33) [t 51, t 52, t 55]))])
 (.region 0 [4, 6, 8, 31, 32] [
 mv 57 9,
 mv 8 57]))
 .skip))))
 (.region 0 [4, 6, 8, 31, 32] [
 o 58 (.p (.bin .add (t 32) (.const (.int .i64 1)))),
 mv 32 58]))))
def c_grow_Build : CFunc := ⟨false, 60, [.tmp 2, .tmp 3],
 (.seq
 (.region 0 [0] [
 o 2 (.p (.move (.const (.pointer none)))),
 o 3 (.p (.move (.const (.bool false))))])
 (.seq
 (.region 1 [0, 4, 5] [
 mv 11 0,
 o 12 (.e (.call (.func 31) [t 11])),
 mv 10 12,
 o 13 (.p (.extract (t 10) 0)),
 o 14 (.p (.extract (t 10) 1)),
 o 4 (.a 0 (.alloc [.int .i64 0, .int .i64 0, .int .i64 0])),
 p (.e (.store 3 (t 4) (t 13))),
 mv 5 14])
 (.seq
 (.seq
 (.region 0 [0, 4, 16] [
 mv 15 5,
 o 16 (.p (.un .not (t 15)))])
 (.cond (t 16)
 (.seq
 (.region 0 [2, 3] [
 o 2 (.p (.move (.const (.pointer none)))),
 o 3 (.p (.move (.const (.bool false))))])
 .ret)
 .skip))
 (.seq
 (.region 0 [0, 4, 6] [
 mv 18 0,
 o 19 (.p (.indexAddrA 3 1 (t 4) (.const (.int .i64 0)))),
 o 20 (.p (.load1 (t 19))),
 o 21 (.p (.indexAddrA 3 1 (t 4) (.const (.int .i64 1)))),
 o 22 (.p (.load1 (t 21))),
 o 23 (.p (.indexAddrA 3 1 (t 4) (.const (.int .i64 2)))),
 o 24 (.p (.load1 (t 23))),
 o 25 (.e (.call (.func 32) [t 18, t 20, t 22, t 24])),
 mv 17 25,
 o 26 (.p (.extract (t 17) 0)),
 o 27 (.p (.extract (t 17) 1)),
 mv 6 26,
 mv 7 27])
 (.seq
 (.region 0 [0, 4, 6, 8] [
 o 28 (.p (.indexAddrA 3 1 (t 4) (.const (.int .i64 0)))),
 o 29 (.p (.load1 (t 28))),
 mv 8 29])
 (.seq
 (.seq
 (.region 0 [4, 6, 8, 31, 32] [
 mv 30 0,
 o 31 (.p (.len (t 30))),
 o 32 (.p (.move (.const (.int .i64 0))))])
 (.block 0
 (.loop [4, 6, 8, 31, 32] c_grow_Build_lp0)))
 (.seq
 (.region 0 [2, 3] [
 mv 59 6,
 mv 2 59,
 o 3 (.p (.move (.const (.bool true))))])
 .ret)))))))⟩

/-- isohyet/isohyetlaw13.Ends -/
@[reducible] def n_l13_Ends : Nat := 17
def c_l13_Ends_lp0 : CCode :=
 (.seq
 (.region 0 [1, 7, 15, 16, 17, 18] [
 o 18 (.p (.bin .lss (t 17) (t 16)))])
 (.seq
 (.cond (t 18)
 .skip
 (.exit 0))
 (.seq
 (.block 1
 (.seq
 (.region 1 [1, 7, 9, 15, 16, 17] [
 o 19 (.p (.indexAddr 2 (t 15) (t 17))),
 o 20 (.p (.loadN 2 (t 19))),
 o 9 (.a 0 (.alloc [.int .i64 0, .int .i64 0])),
 p (.e (.store 2 (t 9) (t 20)))])
 (.region 1 [1, 7, 15, 16, 17] [
 mv 21 7,
 o 22 (.p (.indexAddrA 2 1 (t 9) (.const (.int .i64 0)))),
 o 23 (.p (.load1 (t 22))),
 o 24 (.p (.bin .and (t 23) (.const (.int .i64 4095)))),
 mv 25 1,
 o 26 (.p (.bin .rem (t 24) (t 25))),
 o 27 (.p (.indexAddrA 2 1 (t 9) (.const (.int .i64 1)))),
 o 28 (.p (.load1 (t 27))),
 o 29 (.p (.bin .and (t 28) (.const (.int .i64 4095)))),
 mv 30 1,
 o 31 (.p (.bin .rem (t 29) (t 30))),
 o 32 (.p (.build [.int .i64 0, .int .i64 0] [(0, 1, t 26), (1, 1, t 31)])),
 o 33 (.a 0 (.buildSlice 2 1 [.int .i64 0, .int .i64 0] [(0, 2, t 32)])),
 o 34 (.e (.append 2 16 (t 21) (t 33))),
 mv 7 34])))
 (.region 0 [1, 7, 15, 16, 17] [
 o 35 (.p (.bin .add (t 17) (.const (.int .i64 1)))),
 mv 17 35]))))
def c_l13_Ends : CFunc := ⟨true, 37, [.tmp 6],
 (.seq
 (.region 0 [0, 1, 2] [
 o 6 (.p (.move (.const (.slice none 0 0))))])
 (.seq
 (.region 0 [0, 1, 2, 7] [
 o 7 (.p (.move (.const (.slice none 0 0))))])
 (.seq
 (.seq
 (.region 0 [1, 7, 15, 16, 17] [
 mv 10 0,
 mv 11 0,
 o 12 (.p (.len (t 11))),
 mv 13 2,
 o 14 (.p (.min [t 12, t 13])),
 o 15 (.p (.slice 2 (t 10) none (some (t 14)))),
 o 16 (.p (.len (t 15))),
 o 17 (.p (.move (.const (.int .i64 0))))])
 (.block 0
 (.loop [1, 7, 15, 16, 17] c_l13_Ends_lp0)))
 (.seq
 (.region 0 [6] [
 mv 36 7,
 mv 6 36])
 .ret))))⟩

/-- isohyet/walk.Look -/
@[reducible] def n_walk_Look : Nat := 19
def c_walk_Look_0a : CCode :=
 (.region 0 [2, 3, 4, 5] [
 mv 5 13])
def c_walk_Look_0b : CCode :=
 (.block 1
 (.seq
 (.region 0 [2, 3, 4, 5, 18] [
 o 15 (.p (.load1 (t 2))),
 mv 16 5,
 o 17 (.p (.loadN 2 (t 3))),
 o 18 (.e (.call (.func 40) [t 15, t 16, t 17]))])
 (.cond (t 18)
 (.seq
 (.region 0 [] [
 o 19 (.p (.load1 (t 2))),
 mv 20 5,
 o 21 (.p (.loadN 2 (t 3))),
 o 22 (.e (.call (.func 41) [t 19, t 20, t 21])),
 p (.e (.store 4 (t 4) (t 22)))])
 .ret)
 .skip)))
def c_walk_Look_lp0 : CCode :=
 (.seq
 (.region 0 [2, 3, 6, 7, 29, 30, 31] [
 o 31 (.p (.bin .lss (t 30) (.const (.int .i64 3))))])
 (.seq
 (.cond (t 31)
 .skip
 (.exit 4))
 (.seq
 (.block 5
 (.seq
 (.region 0 [2, 3, 6, 7, 9, 10, 29, 30] [
 mv 32 30,
 o 33 (.p (.index 3 1 false (t 29) (t 30))),
 mv 9 32,
 mv 10 33])
 (.seq
 (.region 0 [2, 3, 6, 7, 10, 29, 30, 61] [
 o 34 (.p (.load1 (t 2))),
 mv 35 10,
 o 36 (.e (.call (.func 42) [t 34, t 35])),
 o 37 (.p (.un .not (t 36))),
 mv 38 37,
 ⟨some 39, .p (.load1 (t 2)), (some (38, true)), none⟩,
 ⟨some 40, .p (.load1 (t 2)), (some (38, true)), none⟩,
 ⟨some 41, .p (.nilCheck (t 40)), (some (38, true)), none⟩,
 ⟨some 42, .p (.fieldAddr 1 (t 41)), (some (38, true)), none⟩,
 ⟨some 43, .p (.load1 (t 42)), (some (38, true)), none⟩,
 ⟨some 44, .p (.move (t 7)), (some (38, true)), none⟩,
 ⟨some 45, .p (.indexAddr 9 (t 43) (t 44)), (some (38, true)), none⟩,
 ⟨some 46, .p (.loadN 9 (t 45)), (some (38, true)), none⟩,
 ⟨some 47, .p (.move (t 9)), (some (38, true)), none⟩,
 ⟨some 48, .p (.loadN 2 (t 3)), (some (38, true)), none⟩,
 ⟨some 49, .e (.call (.func 43) [t 39, t 46, t 47, t 48]), (some (38, true)), none⟩,
 o 50 (.p (.pick (t 38) (t 49) (.const (.bool false)))),
 mv 51 50,
 ⟨some 52, .p (.fieldAddr 1 (t 6)), (some (51, true)), none⟩,
 ⟨some 53, .p (.load1 (t 52)), (some (51, true)), none⟩,
 ⟨some 54, .p (.bin .lss (t 53) (.const (.int .i64 0))), (some (51, true)), none⟩,
 ⟨some 55, .p (.move (t 54)), (some (51, true)), none⟩,
 ⟨some 56, .p (.move (t 10)), (some (55, false)), none⟩,
 ⟨some 57, .p (.fieldAddr 1 (t 6)), (some (55, false)), none⟩,
 ⟨some 58, .p (.load1 (t 57)), (some (55, false)), none⟩,
 ⟨some 59, .p (.bin .lss (t 56) (t 58)), (some (55, false)), none⟩,
 ⟨some 60, .p (.pick (t 55) (.const (.bool true)) (t 59)), (some (51, true)), none⟩,
 o 61 (.p (.pick (t 51) (t 60) (.const (.bool false))))])
 (.cond (t 61)
 (.region 0 [2, 3, 6, 7, 29, 30] [
 mv 62 10,
 o 63 (.p (.fieldAddr 1 (t 6))),
 p (.e (.store 1 (t 63) (t 62)))])
 .skip))))
 (.region 0 [2, 3, 6, 7, 29, 30] [
 o 64 (.p (.bin .add (t 30) (.const (.int .i64 1)))),
 mv 30 64]))))
def c_walk_Look_1a : CCode :=
 (.seq
 (.region 0 [2, 3, 6, 7, 27] [
 mv 7 26])
 (.region 1 [2, 3, 6, 7, 8] [
 o 8 (.a 0 (.alloc [.int .i64 0, .int .i64 0, .int .i64 0, .int .i64 0, .int .i64 0, .int .i64 0, .bool false, .bool false, .bool false])),
 p (.e (.store 9 (t 8) (t 27)))]))
def c_walk_Look_1b : CCode :=
 (.block 3
 (.seq
 (.region 0 [2, 3, 6, 7, 29, 30] [
 o 28 (.p (.fieldAddr 3 (t 8))),
 o 29 (.p (.loadN 3 (t 28))),
 o 30 (.p (.move (.const (.int .i64 0))))])
 (.block 4
 (.loop [2, 3, 6, 7, 29, 30] c_walk_Look_lp0))))
def c_walk_Look : CFunc := ⟨true, 66, [.cellN 4 4],
 (.seq
 (.region 3 [2, 3, 4] [
 o 2 (.a 0 (.box (t 0))),
 o 3 (.a 1 (.box (t 1))),
 o 4 (.a 2 (.alloc [.int .i64 0, .int .i64 0, .int .i64 0, .int .i64 0]))])
 (.seq
 (.seq
 (.region 0 [2, 3, 4, 12] [
 o 11 (.p (.load1 (t 2))),
 o 12 (.e (.call (.func 39) [t 11]))])
 (.block 0
 (.rangeFunc (t 12) [13, 14] c_walk_Look_0a c_walk_Look_0b)))
 (.seq
 (.region 1 [2, 3, 4, 6] [
 o 23 (.p (.build [.int .i64 0, .int .i64 0, .int .i64 0, .int .i64 0] [(0, 1, .const (.int .i64 3)), (1, 1, .const (.int .i64 (-1)))])),
 o 6 (.a 0 (.alloc [.int .i64 0, .int .i64 0, .int .i64 0, .int .i64 0])),
 p (.e (.store 4 (t 6) (t 23)))])
 (.seq
 (.seq
 (.region 0 [2, 3, 4, 6, 25] [
 o 24 (.p (.load1 (t 2))),
 o 25 (.e (.call (.func 39) [t 24]))])
 (.block 2
 (.rangeFunc (t 25) [26, 27] c_walk_Look_1a c_walk_Look_1b)))
 (.seq
 (.region 0 [4] [
 o 65 (.p (.loadN 4 (t 6))),
 p (.e (.store 4 (t 4) (t 65)))])
 .ret)))))⟩

/-- isohyet/march.Steps -/
@[reducible] def n_march_Steps : Nat := 20
def c_march_Steps : CFunc := ⟨false, 8, [.tmp 6],
 (.seq
 (.region 3 [3, 4, 5] [
 o 3 (.a 0 (.box (t 0))),
 o 4 (.a 1 (.box (t 1))),
 o 5 (.a 2 (.box (t 2))),
 o 6 (.p (.move (.const (.nilFunc))))])
 (.seq
 (.region 0 [6] [
 o 7 (.p (.makeFunc 44 [t 3, t 4, t 5])),
 mv 6 7])
 .ret))⟩

/-- isohyet/march.Crossed -/
@[reducible] def n_march_Crossed : Nat := 21
def c_march_Crossed_0a : CCode :=
 (.region 1 [4, 5, 7, 8] [
 o 8 (.a 0 (.alloc [.int .i64 0, .int .i64 0, .bool false, .bool false])),
 p (.e (.store 4 (t 8) (t 11)))])
def c_march_Crossed_0b : CCode :=
 (.block 1
 (.seq
 (.region 0 [7, 8, 26] [
 o 12 (.p (.load1 (t 4))),
 o 13 (.p (.fieldAddr 0 (t 8))),
 o 14 (.p (.load1 (t 13))),
 o 15 (.p (.indexAddr 1 (t 12) (t 14))),
 o 16 (.p (.load1 (t 15))),
 o 17 (.p (.loadN 3 (t 5))),
 o 18 (.e (.call (.func 45) [t 16, t 17])),
 l 19 1 0 (.p (.load1 (t 4))),
 o 20 (.p (.fieldAddr 1 (t 8))),
 l 21 1 0 (.p (.load1 (t 20))),
 o 22 (.p (.indexAddr 1 (t 19) (t 21))),
 l 23 1 0 (.p (.load1 (t 22))),
 l 24 1 0 (.p (.loadN 3 (t 5))),
 o 25 (.e (.call (.func 45) [t 23, t 24])),
 o 26 (.p (.eq true .bool (t 18) (t 25)))])
 (.cond (t 26)
 (.region 1 [] [
 o 27 (.p (.load1 (t 7))),
 o 28 (.p (.fieldAddr 0 (t 8))),
 o 29 (.p (.load1 (t 28))),
 o 30 (.p (.fieldAddr 1 (t 8))),
 o 31 (.p (.load1 (t 30))),
 o 32 (.p (.build [.int .i64 0, .int .i64 0] [(0, 1, t 29), (1, 1, t 31)])),
 o 33 (.a 0 (.buildSlice 2 1 [.int .i64 0, .int .i64 0] [(0, 2, t 32)])),
 o 34 (.e (.append 2 16 (t 27) (t 33))),
 p (.e (.store 1 (t 7) (t 34)))])
 .skip)))
def c_march_Crossed : CFunc := ⟨true, 36, [.tmp 6],
 (.seq
 (.region 2 [0, 4, 5, 6] [
 o 4 (.a 0 (.box (t 1))),
 o 5 (.a 1 (.box (t 2))),
 o 6 (.p (.move (.const (.slice none 0 0))))])
 (.seq
 (.region 1 [0, 4, 5, 6, 7] [
 o 7 (.a 0 (.alloc [.slice none 0 0]))])
 (.seq
 (.seq
 (.region 0 [4, 5, 6, 7, 10] [
 mv 9 0,
 o 10 (.e (.call (.func 47) [t 9]))])
 (.block 0
 (.rangeFunc (t 10) [11] c_march_Crossed_0a c_march_Crossed_0b)))
 (.seq
 (.region 0 [6] [
 o 35 (.p (.load1 (t 7))),
 mv 6 35])
 .ret))))⟩

/-- (*isohyet/chain.tracer).line -/
@[reducible] def n_tracer_line : Nat := 22
def c_tracer_line_lp0 : CCode :=
 (.seq
 (.seq
 (.region 0 [0, 3, 4, 5, 14] [
 mv 8 0,
 o 9 (.p (.nilCheck (t 8))),
 o 10 (.p (.fieldAddr 2 (t 9))),
 o 11 (.p (.load1 (t 10))),
 o 12 (.p (.loadN 2 (t 3))),
 o 13 (.p (.lookup (.agg [true, true]) (.bool false) false (t 11) (t 12))),
 o 14 (.p (.un .not (t 13)))])
 (.cond (t 14)
 .skip
 (.exit 0)))
 (.block 1
 (.seq
 (.region 0 [0, 3, 4, 5] [
 mv 15 0,
 o 16 (.p (.nilCheck (t 15))),
 o 17 (.p (.fieldAddr 2 (t 16))),
 o 18 (.p (.load1 (t 17))),
 o 19 (.p (.loadN 2 (t 3))),
 p (.e (.mapUpdate (.agg [true, true]) (t 18) (t 19) (.const (.bool true))))])
 (.seq
 (.region 1 [0, 3, 4, 5] [
 o 20 (.p (.fieldAddr 1 (t 5))),
 o 21 (.p (.load1 (t 20))),
 o 22 (.p (.loadN 2 (t 3))),
 o 23 (.a 0 (.buildSlice 2 1 [.int .i64 0, .int .i64 0] [(0, 2, t 22)])),
 o 24 (.e (.append 2 16 (t 21) (t 23))),
 o 25 (.p (.fieldAddr 1 (t 5))),
 p (.e (.store 1 (t 25) (t 24)))])
 (.seq
 (.region 1 [0, 3, 4, 5, 6, 7] [
 mv 27 0,
 o 28 (.p (.nilCheck (t 27))),
 o 29 (.p (.fieldAddr 0 (t 28))),
 o 30 (.p (.load1 (t 29))),
 o 31 (.p (.loadN 2 (t 3))),
 o 32 (.p (.lookup (.agg [true, true]) (.agg ⟨[.int .i64 0, .int .i64 0]⟩) true (t 30) (t 31))),
 mv 26 32,
 o 33 (.p (.extract (t 26) 0)),
 o 34 (.p (.extract (t 26) 1)),
 o 6 (.a 0 (.alloc [.int .i64 0, .int .i64 0])),
 p (.e (.store 2 (t 6) (t 33))),
 mv 7 34])
 (.seq
 (.seq
 (.region 0 [0, 3, 4, 5, 6, 36] [
 mv 35 7,
 o 36 (.p (.un .not (t 35)))])
 (.cond (t 36)
 (.seq
 (.region 0 [4] [
 o 37 (.p (.loadN 3 (t 5))),
 p (.e (.store 3 (t 4) (t 37)))])
 .ret)
 .skip))
 (.region 0 [0, 3, 4, 5] [
 o 38 (.p (.loadN 2 (t 6))),
 p (.e (.store 2 (t 3) (t 38)))])))))))
def c_tracer_line : CFunc := ⟨false, 41, [.cellN 4 3],
 (.seq
 (.region 2 [0, 3, 4] [
 o 3 (.a 0 (.box (t 1))),
 o 4 (.a 1 (.alloc [.bool false, .slice none 0 0, .slice none 0 0]))])
 (.seq
 (.region 1 [0, 3, 4, 5] [
 o 5 (.a 0 (.alloc [.bool false, .slice none 0 0, .slice none 0 0]))])
 (.seq
 (.block 0
 (.loop [0, 3, 4, 5] c_tracer_line_lp0))
 (.seq
 (.region 0 [4, 5] [
 o 39 (.p (.fieldAddr 0 (t 5))),
 p (.e (.store 1 (t 39) (.const (.bool true))))])
 (.seq
 (.region 0 [4] [
 o 40 (.p (.loadN 3 (t 5))),
 p (.e (.store 3 (t 4) (t 40)))])
 .ret)))))⟩

/-- isohyet/march.Point -/
@[reducible] def n_march_Point : Nat := 23
def c_march_Point : CFunc := ⟨true, 54, [.cellN 10 6],
 (.seq
 (.region 2 [0, 1, 2, 3, 9, 10] [
 o 9 (.a 0 (.box (t 4))),
 o 10 (.a 1 (.alloc [.bool false, .slice none 0 0, .slice none 0 0, .bool false, .slice none 0 0, .slice none 0 0]))])
 (.seq
 (.region 1 [0, 1, 2, 3, 9, 10, 11] [
 mv 14 1,
 mv 15 3,
 o 16 (.p (.indexAddr 1 (t 14) (t 15))),
 o 17 (.p (.load1 (t 16))),
 mv 18 1,
 mv 19 2,
 o 20 (.p (.indexAddr 1 (t 18) (t 19))),
 o 21 (.p (.load1 (t 20))),
 o 22 (.p (.bin .sub (t 17) (t 21))),
 o 23 (.e (.call (.func 10) [t 22])),
 o 11 (.a 0 (.alloc [.bool false, .slice none 0 0, .slice none 0 0])),
 p (.e (.store 3 (t 11) (t 23)))])
 (.seq
 (.region 1 [0, 2, 3, 10, 12] [
 l 25 0 1 (.p (.loadN 3 (t 9))),
 mv 26 1,
 mv 27 2,
 o 28 (.p (.indexAddr 1 (t 26) (t 27))),
 o 29 (.p (.load1 (t 28))),
 o 30 (.e (.call (.func 10) [t 29])),
 o 31 (.e (.call (.func 49) [t 25, t 30])),
 l 32 2 0 (.p (.loadN 3 (t 11))),
 o 33 (.e (.call (.func 48) [t 31, t 32])),
 mv 24 33,
 o 34 (.p (.extract (t 24) 0)),
 o 35 (.p (.extract (t 24) 1)),
 o 12 (.a 0 (.alloc [.bool false, .slice none 0 0, .slice none 0 0])),
 p (.e (.store 3 (t 12) (t 34))),
 mv 13 35])
 (.seq
 (.region 0 [10] [
 mv 36 0,
 o 37 (.p (.nilCheck (t 36))),
 o 38 (.p (.fieldAddr 0 (t 37))),
 o 39 (.p (.load1 (t 38))),
 mv 40 2,
 o 41 (.p (.indexAddr 2 (t 39) (t 40))),
 o 42 (.p (.loadN 2 (t 41))),
 o 43 (.e (.call (.func 51) [t 42])),
 mv 44 0,
 o 45 (.p (.nilCheck (t 44))),
 o 46 (.p (.fieldAddr 0 (t 45))),
 l 47 1 0 (.p (.load1 (t 46))),
 mv 48 3,
 o 49 (.p (.indexAddr 2 (t 47) (t 48))),
 l 50 1 0 (.p (.loadN 2 (t 49))),
 o 51 (.e (.call (.func 51) [t 50])),
 l 52 2 0 (.p (.loadN 3 (t 12))),
 o 53 (.e (.call (.func 50) [t 43, t 51, t 52])),
 p (.e (.store 6 (t 10) (t 53)))])
 .ret))))⟩

/-- isohyet/frac.Whole -/
@[reducible] def n_frac_Whole : Nat := 24
def c_frac_Whole : CFunc := ⟨true, 6, [.cellN 2 3],
 (.seq
 (.region 2 [1, 2] [
 o 1 (.a 0 (.box (t 0))),
 o 2 (.a 1 (.alloc [.bool false, .slice none 0 0, .slice none 0 0]))])
 (.seq
 (.region 0 [2] [
 l 3 0 1 (.p (.loadN 2 (t 1))),
 o 4 (.e (.call (.func 52) [])),
 o 5 (.e (.call (.func 27) [t 3, t 4])),
 p (.e (.store 3 (t 2) (t 5)))])
 .ret))⟩

/-- isohyet/num.Of -/
@[reducible] def n_num_Of : Nat := 25
def c_num_Of : CFunc := ⟨true, 14, [.cellN 2 2],
 (.seq
 (.region 1 [0, 2] [
 o 2 (.a 0 (.alloc [.bool false, .slice none 0 0]))])
 (.seq
 (.seq
 (.region 0 [0, 2, 4] [
 mv 3 0,
 o 4 (.p (.bin .lss (t 3) (.const (.int .i64 0))))])
 (.cond (t 4)
 (.seq
 (.region 0 [2] [
 mv 5 0,
 o 6 (.p (.conv .u64 (t 5))),
 o 7 (.p (.un .neg (t 6))),
 o 8 (.e (.call (.func 53) [t 7])),
 o 9 (.p (.build [.bool false, .slice none 0 0] [(0, 1, .const (.bool true)), (1, 1, t 8)])),
 p (.e (.store 2 (t 2) (t 9)))])
 .ret)
 .skip))
 (.seq
 (.region 0 [2] [
 mv 10 0,
 o 11 (.p (.conv .u64 (t 10))),
 o 12 (.e (.call (.func 53) [t 11])),
 o 13 (.p (.build [.bool false, .slice none 0 0] [(0, 1, .const (.bool false)), (1, 1, t 12)])),
 p (.e (.store 2 (t 2) (t 13)))])
 .ret)))⟩

/-- isohyet/num.Sign -/
@[reducible] def n_num_Sign : Nat := 26
def c_num_Sign : CFunc := ⟨true, 11, [.tmp 2],
 (.seq
 (.region 1 [1] [
 o 1 (.a 0 (.box (t 0))),
 o 2 (.p (.move (.const (.int .i64 0))))])
 (.seq
 (.block 0
 (.seq
 (.region 0 [1, 3] [
 o 4 (.p (.fieldAddr 1 (t 1))),
 o 5 (.p (.load1 (t 4))),
 o 6 (.e (.call (.func 54) [t 5])),
 o 7 (.p (.bin .eql (t 6) (.const (.int .i64 0)))),
 mv 3 7])
 (.cond (t 3)
 (.seq
 (.region 0 [2] [
 o 2 (.p (.move (.const (.int .i64 0))))])
 .ret)
 (.seq
 (.region 0 [8] [
 o 9 (.p (.fieldAddr 0 (t 1))),
 o 10 (.p (.load1 (t 9))),
 mv 8 10])
 (.cond (t 8)
 (.seq
 (.region 0 [2] [
 o 2 (.p (.move (.const (.int .i64 (-1)))))])
 .ret)
 .skip)))))
 (.seq
 (.region 0 [2] [
 o 2 (.p (.move (.const (.int .i64 1))))])
 .ret)))⟩

/-- isohyet/frac.low -/
@[reducible] def n_frac_low : Nat := 27
def c_frac_low_r0 : CCode :=
 (.seq
 (.seq
 (.region 0 [1, 2, 4, 5, 19] [
 mv 18 5,
 o 19 (.e (.call (.func 55) [t 18]))])
 (.cond (t 19)
 (.seq
 (.region 0 [4] [
 o 20 (.p (.fieldAddr 0 (t 2))),
 o 21 (.p (.load1 (t 20))),
 o 22 (.p (.fieldAddr 1 (t 2))),
 o 23 (.p (.load1 (t 22))),
 o 24 (.e (.call (.func 13) [t 21, t 23])),
 mv 25 1,
 o 26 (.e (.call (.func 28) [t 25, .const (.slice none 0 0)])),
 o 27 (.p (.build [.bool false, .slice none 0 0, .slice none 0 0] [(0, 2, t 24), (2, 1, t 26)])),
 p (.e (.store 3 (t 4) (t 27)))])
 .ret)
 .skip))
 (.seq
 (.region 0 [1, 2, 4, 5, 6] [
 o 29 (.p (.fieldAddr 1 (t 2))),
 o 30 (.p (.load1 (t 29))),
 mv 31 5,
 o 32 (.e (.call (.func 57) [t 30, t 31])),
 mv 28 32,
 o 33 (.p (.extract (t 28) 0)),
 o 34 (.p (.extract (t 28) 1)),
 mv 6 33,
 mv 7 34])
 (.seq
 (.region 0 [2, 4, 6, 8] [
 mv 36 1,
 mv 37 5,
 o 38 (.e (.call (.func 57) [t 36, t 37])),
 mv 35 38,
 o 39 (.p (.extract (t 35) 0)),
 o 40 (.p (.extract (t 35) 1)),
 mv 8 39,
 mv 9 40])
 (.seq
 (.region 0 [4] [
 o 41 (.p (.fieldAddr 0 (t 2))),
 o 42 (.p (.load1 (t 41))),
 mv 43 6,
 o 44 (.e (.call (.func 13) [t 42, t 43])),
 mv 45 8,
 o 46 (.p (.build [.bool false, .slice none 0 0, .slice none 0 0] [(0, 2, t 44), (2, 1, t 45)])),
 p (.e (.store 3 (t 4) (t 46)))])
 .ret))))
def c_frac_low : CFunc := ⟨true, 47, [.cellN 4 3],
 (.seq
 (.region 2 [1, 2, 4] [
 o 2 (.a 0 (.box (t 0))),
 o 4 (.a 1 (.alloc [.bool false, .slice none 0 0, .slice none 0 0]))])
 (.seq
 (.region 0 [1, 2, 4, 5] [
 o 10 (.e (.call (.func 52) [])),
 mv 5 10])
 (.seq
 (.seq
 (.region 0 [1, 2, 4, 5, 13] [
 mv 11 1,
 o 12 (.e (.call (.func 55) [t 11])),
 o 13 (.p (.un .not (t 12)))])
 (.cond (t 13)
 (.region 0 [1, 2, 4, 5] [
 o 14 (.p (.fieldAddr 1 (t 2))),
 o 15 (.p (.load1 (t 14))),
 mv 16 1,
 o 17 (.e (.call (.func 56) [t 15, t 16])),
 mv 5 17])
 .skip))
 c_frac_low_r0)))⟩

/-- isohyet/mag.Add -/
@[reducible] def n_mag_Add : Nat := 28
def c_mag_Add_r0 : CCode :=
 (.region 0 [0, 1, 5, 6, 21, 22, 23] [
 mv 37 5,
 mv 38 7,
 mv 39 8,
 mv 40 9,
 mv 41 6,
 o 42 (.e (.call (.func 58) [t 39, t 40, t 41])),
 mv 36 42,
 o 43 (.p (.extract (t 36) 0)),
 o 44 (.p (.extract (t 36) 1)),
 o 45 (.p (.indexAddr 1 (t 37) (t 38))),
 p (.e (.store 1 (t 45) (t 43))),
 mv 6 44])
def c_mag_Add_lp0 : CCode :=
 (.seq
 (.region 0 [0, 1, 5, 6, 21, 22, 23, 24] [
 o 24 (.p (.bin .lss (t 23) (t 22)))])
 (.seq
 (.cond (t 24)
 .skip
 (.exit 0))
 (.seq
 (.block 1
 (.seq
 (.region 0 [0, 1, 5, 6, 7, 8, 21, 22, 23] [
 mv 25 23,
 o 26 (.p (.indexAddr 1 (t 21) (t 23))),
 o 27 (.p (.load1 (t 26))),
 mv 7 25,
 mv 8 27])
 (.seq
 (.region 0 [0, 1, 5, 6, 7, 8, 9, 21, 22, 23] [
 o 9 (.p (.move (.const (.int .u64 0))))])
 (.seq
 (.seq
 (.region 0 [0, 1, 5, 6, 7, 8, 9, 21, 22, 23, 31] [
 mv 28 7,
 mv 29 1,
 o 30 (.p (.len (t 29))),
 o 31 (.p (.bin .lss (t 28) (t 30)))])
 (.cond (t 31)
 (.region 0 [0, 1, 5, 6, 7, 8, 9, 21, 22, 23] [
 mv 32 1,
 mv 33 7,
 o 34 (.p (.indexAddr 1 (t 32) (t 33))),
 o 35 (.p (.load1 (t 34))),
 mv 9 35])
 .skip))
 c_mag_Add_r0))))
 (.region 0 [0, 1, 5, 6, 21, 22, 23] [
 o 46 (.p (.bin .add (t 23) (.const (.int .i64 1)))),
 mv 23 46]))))
def c_mag_Add_r1 : CCode :=
 (.seq
 (.region 1 [0, 1, 5] [
 mv 17 0,
 o 18 (.p (.len (t 17))),
 o 19 (.p (.bin .add (t 18) (.const (.int .i64 1)))),
 o 20 (.a 0 (.makeSlice 1 8 [.int .u64 0] (t 19) (t 19))),
 mv 5 20])
 (.seq
 (.region 0 [0, 1, 5, 6] [
 o 6 (.p (.move (.const (.int .u64 0))))])
 (.seq
 (.seq
 (.region 0 [0, 1, 5, 6, 21, 22, 23] [
 mv 21 0,
 o 22 (.p (.len (t 21))),
 o 23 (.p (.move (.const (.int .i64 0))))])
 (.block 0
 (.loop [0, 1, 5, 6, 21, 22, 23] c_mag_Add_lp0)))
 (.seq
 (.region 0 [5] [
 mv 47 5,
 mv 48 0,
 o 49 (.p (.len (t 48))),
 mv 50 6,
 o 51 (.p (.indexAddr 1 (t 47) (t 49))),
 p (.e (.store 1 (t 51) (t 50)))])
 (.seq
 (.region 0 [4] [
 mv 52 5,
 o 53 (.e (.call (.func 59) [t 52])),
 mv 4 53])
 .ret)))))
def c_mag_Add : CFunc := ⟨true, 54, [.tmp 4],
 (.seq
 (.region 0 [0, 1] [
 o 4 (.p (.move (.const (.slice none 0 0))))])
 (.seq
 (.seq
 (.region 0 [0, 1, 14] [
 mv 10 0,
 o 11 (.p (.len (t 10))),
 mv 12 1,
 o 13 (.p (.len (t 12))),
 o 14 (.p (.bin .lss (t 11) (t 13)))])
 (.cond (t 14)
 (.region 0 [0, 1] [
 mv 15 1,
 mv 16 0,
 mv 0 15,
 mv 1 16])
 .skip))
 c_mag_Add_r1))⟩

/-- isohyet/frac.Cmp -/
@[reducible] def n_frac_Cmp : Nat := 29
def c_frac_Cmp : CFunc := ⟨true, 30, [.tmp 4],
 (.seq
 (.region 2 [2, 3] [
 o 2 (.a 0 (.box (t 0))),
 o 3 (.a 1 (.box (t 1))),
 o 4 (.p (.move (.const (.int .i64 0))))])
 (.seq
 (.region 0 [2, 3, 5, 6] [
 o 7 (.p (.loadN 3 (t 2))),
 o 8 (.e (.call (.func 60) [t 7])),
 l 9 1 0 (.p (.loadN 3 (t 3))),
 o 10 (.e (.call (.func 60) [t 9])),
 mv 5 8,
 mv 6 10])
 (.seq
 (.seq
 (.region 0 [2, 3, 5, 6, 13] [
 mv 11 5,
 mv 12 6,
 o 13 (.p (.bin .neq (t 11) (t 12)))])
 (.cond (t 13)
 (.seq
 (.region 0 [4] [
 mv 14 5,
 o 15 (.e (.call (.func 25) [t 14])),
 mv 16 6,
 o 17 (.e (.call (.func 25) [t 16])),
 o 18 (.e (.call (.func 61) [t 15, t 17])),
 mv 4 18])
 .ret)
 .skip))
 (.seq
 (.region 0 [4] [
 o 19 (.p (.fieldAddr 0 (t 2))),
 l 20 0 1 (.p (.loadN 2 (t 19))),
 o 21 (.p (.loadN 3 (t 3))),
 o 22 (.e (.call (.func 63) [t 21])),
 o 23 (.e (.call (.func 62) [t 20, t 22])),
 o 24 (.p (.fieldAddr 0 (t 3))),
 l 25 2 1 (.p (.loadN 2 (t 24))),
 l 26 2 0 (.p (.loadN 3 (t 2))),
 o 27 (.e (.call (.func 63) [t 26])),
 o 28 (.e (.call (.func 62) [t 25, t 27])),
 o 29 (.e (.call (.func 61) [t 23, t 28])),
 mv 4 29])
 .ret))))⟩

/-- isohyet/isohyetlaw12.Apart -/
@[reducible] def n_l12_Apart : Nat := 30
def c_l12_Apart_lp0 : CCode :=
 (.seq
 (.region 0 [5, 6, 16, 17, 18, 19] [
 o 19 (.p (.bin .lss (t 18) (t 17)))])
 (.seq
 (.cond (t 19)
 .skip
 (.exit 0))
 (.seq
 (.block 1
 (.seq
 (.region 1 [5, 6, 8, 16, 17, 18] [
 o 20 (.p (.indexAddr 2 (t 16) (t 18))),
 o 21 (.p (.loadN 2 (t 20))),
 o 8 (.a 0 (.alloc [.int .i64 0, .int .i64 0])),
 p (.e (.store 2 (t 8) (t 21)))])
 (.seq
 (.region 1 [5, 6, 9, 16, 17, 18] [
 o 22 (.p (.loadN 2 (t 8))),
 o 23 (.e (.call (.func 64) [t 22])),
 o 9 (.a 0 (.alloc [.int .i64 0, .int .i64 0])),
 p (.e (.store 2 (t 9) (t 23)))])
 (.seq
 (.region 0 [5, 6, 9, 16, 17, 18, 27] [
 mv 24 6,
 o 25 (.p (.loadN 2 (t 9))),
 o 26 (.p (.lookup (.agg [true, true]) (.int .i64 0) false (t 24) (t 25))),
 o 27 (.p (.bin .eql (t 26) (.const (.int .i64 0))))])
 (.cond (t 27)
 (.seq
 (.region 0 [5, 6, 9, 16, 17, 18] [
 mv 28 6,
 o 29 (.p (.loadN 2 (t 9))),
 p (.e (.mapUpdate (.agg [true, true]) (t 28) (t 29) (.const (.int .i64 1))))])
 (.region 1 [5, 6, 16, 17, 18] [
 mv 30 5,
 o 31 (.p (.loadN 2 (t 9))),
 o 32 (.a 0 (.buildSlice 2 1 [.int .i64 0, .int .i64 0] [(0, 2, t 31)])),
 o 33 (.e (.append 2 16 (t 30) (t 32))),
 mv 5 33]))
 .skip)))))
 (.region 0 [5, 6, 16, 17, 18] [
 o 34 (.p (.bin .add (t 18) (.const (.int .i64 1)))),
 mv 18 34]))))
def c_l12_Apart : CFunc := ⟨true, 36, [.tmp 4],
 (.seq
 (.region 0 [0, 1] [
 o 4 (.p (.move (.const (.slice none 0 0))))])
 (.seq
 (.region 0 [0, 1, 5] [
 o 5 (.p (.move (.const (.slice none 0 0))))])
 (.seq
 (.region 1 [0, 1, 5, 6] [
 o 10 (.a 0 (.makeMap)),
 mv 6 10])
 (.seq
 (.seq
 (.region 0 [5, 6, 16, 17, 18] [
 mv 11 0,
 mv 12 0,
 o 13 (.p (.len (t 12))),
 mv 14 1,
 o 15 (.p (.min [t 13, t 14])),
 o 16 (.p (.slice 2 (t 11) none (some (t 15)))),
 o 17 (.p (.len (t 16))),
 o 18 (.p (.move (.const (.int .i64 0))))])
 (.block 0
 (.loop [5, 6, 16, 17, 18] c_l12_Apart_lp0)))
 (.seq
 (.region 0 [4] [
 mv 35 5,
 mv 4 35])
 .ret)))))⟩

/-- isohyet/grow.Base -/
@[reducible] def n_grow_Base : Nat := 31
def c_grow_Base_lp0 : CCode :=
 (.seq
 (.region 0 [0, 2, 4, 7, 8, 9, 10] [
 o 10 (.p (.bin .lss (t 9) (t 8)))])
 (.seq
 (.cond (t 10)
 .skip
 (.exit 0))
 (.seq
 (.block 1
 (.seq
 (.region 1 [0, 2, 4, 5, 6, 7, 8, 9] [
 mv 11 9,
 o 12 (.p (.indexAddr 2 (t 7) (t 9))),
 o 13 (.p (.loadN 2 (t 12))),
 o 6 (.a 0 (.alloc [.int .i64 0, .int .i64 0])),
 mv 5 11,
 p (.e (.store 2 (t 6) (t 13)))])
 (.block 2
 (.seq
 (.region 0 [0, 2, 4, 5, 6, 7, 8, 9, 14] [
 mv 15 4,
 o 16 (.p (.bin .eql (t 15) (.const (.int .i64 0)))),
 mv 17 16,
 ⟨some 18, .p (.loadN 2 (t 6)), (some (17, true)), none⟩,
 ⟨some 19, .p (.move (t 0)), (some (17, true)), none⟩,
 ⟨some 20, .p (.indexAddr 2 (t 19) (.const (.int .i64 0))), (some (17, true)), none⟩,
 ⟨some 21, .p (.loadN 2 (t 20)), (some (17, true)), none⟩,
 ⟨some 22, .p (.eq true (.agg [true, true]) (t 18) (t 21)), (some (17, true)), none⟩,
 o 23 (.p (.pick (t 17) (t 22) (.const (.bool false)))),
 mv 14 23])
 (.cond (t 14)
 (.region 0 [0, 2, 4, 7, 8, 9] [
 mv 24 5,
 mv 4 24])
 (.seq
 (.region 0 [0, 2, 4, 5, 7, 8, 9, 25] [
 mv 26 4,
 o 27 (.p (.bin .gtr (t 26) (.const (.int .i64 0)))),
 mv 28 27,
 ⟨some 29, .p (.move (t 0)), (some (28, true)), none⟩,
 ⟨some 30, .p (.indexAddr 2 (t 29) (.const (.int .i64 0))), (some (28, true)), none⟩,
 ⟨some 31, .p (.loadN 2 (t 30)), (some (28, true)), none⟩,
 ⟨some 32, .p (.move (t 0)), (some (28, true)), none⟩,
 ⟨some 33, .p (.move (t 4)), (some (28, true)), none⟩,
 ⟨some 34, .p (.indexAddr 2 (t 32) (t 33)), (some (28, true)), none⟩,
 ⟨some 35, .p (.loadN 2 (t 34)), (some (28, true)), none⟩,
 ⟨some 36, .p (.loadN 2 (t 6)), (some (28, true)), none⟩,
 ⟨some 37, .e (.call (.func 65) [t 31, t 35, t 36]), (some (28, true)), none⟩,
 ⟨some 38, .p (.bin .neq (t 37) (.const (.int .i64 0))), (some (28, true)), none⟩,
 o 39 (.p (.pick (t 28) (t 38) (.const (.bool false)))),
 mv 25 39])
 (.cond (t 25)
 (.seq
 (.region 0 [2, 3] [
 mv 40 4,
 mv 41 5,
 o 42 (.p (.build [.int .i64 0, .int .i64 0, .int .i64 0] [(0, 1, .const (.int .i64 0)), (1, 1, t 40), (2, 1, t 41)])),
 p (.e (.store 3 (t 2) (t 42))),
 o 3 (.p (.move (.const (.bool true))))])
 .ret)
 .skip)))))))
 (.region 0 [0, 2, 4, 7, 8, 9] [
 o 43 (.p (.bin .add (t 9) (.const (.int .i64 1)))),
 mv 9 43]))))
def c_grow_Base : CFunc := ⟨true, 45, [.cellN 2 3, .tmp 3],
 (.seq
 (.region 1 [0, 2] [
 o 2 (.a 0 (.alloc [.int .i64 0, .int .i64 0, .int .i64 0])),
 o 3 (.p (.move (.const (.bool false))))])
 (.seq
 (.region 0 [0, 2, 4] [
 o 4 (.p (.move (.const (.int .i64 0))))])
 (.seq
 (.seq
 (.region 0 [0, 2, 4, 7, 8, 9] [
 mv 7 0,
 o 8 (.p (.len (t 7))),
 o 9 (.p (.move (.const (.int .i64 0))))])
 (.block 0
 (.loop [0, 2, 4, 7, 8, 9] c_grow_Base_lp0)))
 (.seq
 (.region 0 [2, 3] [
 o 44 (.p (.build [.int .i64 0, .int .i64 0, .int .i64 0] [])),
 p (.e (.store 3 (t 2) (t 44))),
 o 3 (.p (.move (.const (.bool false))))])
 .ret))))⟩

/-- isohyet/mesh.New -/
@[reducible] def n_mesh_New : Nat := 32
def c_mesh_New_lp0 : CCode :=
 (.seq
 (.region 0 [0, 1, 2, 3, 10, 21, 22, 23] [
 o 23 (.p (.bin .lss (t 22) (t 21)))])
 (.seq
 (.cond (t 23)
 .skip
 (.exit 0))
 (.seq
 (.block 1
 (.region 1 [0, 1, 2, 3, 10, 21, 22] [
 mv 24 10,
 mv 25 10,
 o 26 (.p (.nilCheck (t 25))),
 o 27 (.p (.fieldAddr 3 (t 26))),
 o 28 (.p (.load1 (t 27))),
 o 29 (.a 0 (.buildSlice 1 1 [.int .i64 0] [(0, 1, .const (.int .i64 (-1)))])),
 o 30 (.e (.append 1 8 (t 28) (t 29))),
 o 31 (.p (.nilCheck (t 24))),
 o 32 (.p (.fieldAddr 3 (t 31))),
 p (.e (.store 1 (t 32) (t 30)))]))
 (.region 0 [0, 1, 2, 3, 10, 21, 22] [
 o 33 (.p (.bin .add (t 22) (.const (.int .i64 1)))),
 mv 22 33]))))
def c_mesh_New_lp1 : CCode :=
 (.seq
 (.region 0 [10, 11, 12, 13, 62, 63] [
 o 63 (.p (.bin .lss (t 62) (.const (.int .i64 3))))])
 (.seq
 (.cond (t 63)
 .skip
 (.exit 3))
 (.seq
 (.block 4
 (.seq
 (.region 0 [10, 11, 12, 13, 14, 62] [
 mv 64 62,
 mv 14 64])
 (.seq
 (.region 0 [10, 11, 12, 13, 14, 62] [
 mv 65 14,
 mv 66 10,
 mv 67 14,
 o 68 (.p (.bin .add (t 67) (.const (.int .i64 2)))),
 o 69 (.p (.bin .rem (t 68) (.const (.int .i64 3)))),
 o 70 (.p (.indexAddrA 3 1 (t 12) (t 69))),
 o 71 (.p (.load1 (t 70))),
 mv 72 14,
 o 73 (.p (.bin .add (t 72) (.const (.int .i64 1)))),
 o 74 (.p (.bin .rem (t 73) (.const (.int .i64 3)))),
 o 75 (.p (.indexAddrA 3 1 (t 12) (t 74))),
 o 76 (.p (.load1 (t 75))),
 o 77 (.e (.call (.func 66) [t 66, t 71, t 76, .const (.int .i64 (-1))])),
 o 78 (.p (.indexAddrA 3 1 (t 13) (t 65))),
 p (.e (.store 1 (t 78) (t 77)))])
 (.region 0 [10, 11, 12, 13, 62] [
 mv 79 10,
 mv 80 11,
 mv 81 14,
 mv 82 14,
 o 83 (.p (.indexAddrA 3 1 (t 13) (t 82))),
 o 84 (.p (.load1 (t 83))),
 o 85 (.e (.call (.func 67) [t 79, t 80, t 81, t 84, .const (.int .i64 2), .const (.bool false)]))]))))
 (.region 0 [10, 11, 12, 13, 62] [
 o 86 (.p (.bin .add (t 62) (.const (.int .i64 1)))),
 mv 62 86]))))
def c_mesh_New_lp2 : CCode :=
 (.seq
 (.region 0 [10, 13, 87, 88] [
 o 88 (.p (.bin .lss (t 87) (.const (.int .i64 3))))])
 (.seq
 (.cond (t 88)
 .skip
 (.exit 5))
 (.seq
 (.block 6
 (.seq
 (.region 0 [10, 13, 15, 87] [
 mv 89 87,
 mv 15 89])
 (.region 0 [10, 13, 87] [
 mv 90 10,
 mv 91 15,
 o 92 (.p (.indexAddrA 3 1 (t 13) (t 91))),
 o 93 (.p (.load1 (t 92))),
 mv 94 15,
 o 95 (.p (.bin .add (t 94) (.const (.int .i64 1)))),
 o 96 (.p (.bin .rem (t 95) (.const (.int .i64 3)))),
 o 97 (.p (.indexAddrA 3 1 (t 13) (t 96))),
 o 98 (.p (.load1 (t 97))),
 o 99 (.e (.call (.func 67) [t 90, t 93, .const (.int .i64 1), t 98, .const (.int .i64 0), .const (.bool false)]))])))
 (.region 0 [10, 13, 87] [
 o 100 (.p (.bin .add (t 87) (.const (.int .i64 1)))),
 mv 87 100]))))
def c_mesh_New_r0 : CCode :=
 (.seq
 (.region 0 [1, 2, 3, 10, 11] [
 mv 53 10,
 mv 54 1,
 mv 55 2,
 mv 56 3,
 o 57 (.e (.call (.func 66) [t 53, t 54, t 55, t 56])),
 mv 11 57])
 (.seq
 (.region 1 [10, 11, 12] [
 mv 58 1,
 mv 59 2,
 mv 60 3,
 o 61 (.p (.build [.int .i64 0, .int .i64 0, .int .i64 0] [(0, 1, t 58), (1, 1, t 59), (2, 1, t 60)])),
 o 12 (.a 0 (.alloc [.int .i64 0, .int .i64 0, .int .i64 0])),
 p (.e (.store 3 (t 12) (t 61)))])
 (.seq
 (.region 1 [10, 11, 12, 13] [
 o 13 (.a 0 (.alloc [.int .i64 0, .int .i64 0, .int .i64 0]))])
 (.seq
 (.seq
 (.region 0 [10, 11, 12, 13, 62] [
 o 62 (.p (.move (.const (.int .i64 0))))])
 (.block 3
 (.loop [10, 11, 12, 13, 62] c_mesh_New_lp1)))
 (.seq
 (.seq
 (.region 0 [10, 13, 87] [
 o 87 (.p (.move (.const (.int .i64 0))))])
 (.block 5
 (.loop [10, 13, 87] c_mesh_New_lp2)))
 (.seq
 (.region 0 [8, 9] [
 mv 101 10,
 mv 8 101,
 o 9 (.p (.move (.const (.bool true))))])
 .ret))))))
def c_mesh_New : CFunc := ⟨false, 102, [.tmp 8, .tmp 9],
 (.seq
 (.region 0 [0, 1, 2, 3] [
 o 8 (.p (.move (.const (.pointer none)))),
 o 9 (.p (.move (.const (.bool false))))])
 (.seq
 (.region 1 [0, 1, 2, 3, 10] [
 mv 16 0,
 o 17 (.e (.append 2 16 (.const (.slice none 0 0)) (t 16))),
 o 18 (.p (.build [.slice none 0 0, .slice none 0 0, .slice none 0 0, .slice none 0 0] [(0, 1, t 17)])),
 o 19 (.a 0 (.box (t 18))),
 mv 10 19])
 (.seq
 (.seq
 (.region 0 [0, 1, 2, 3, 10, 21, 22] [
 mv 20 0,
 o 21 (.p (.len (t 20))),
 o 22 (.p (.move (.const (.int .i64 0))))])
 (.block 0
 (.loop [0, 1, 2, 3, 10, 21, 22] c_mesh_New_lp0)))
 (.seq
 (.seq
 (.region 0 [1, 2, 3, 10, 46] [
 mv 34 0,
 mv 35 1,
 o 36 (.p (.indexAddr 2 (t 34) (t 35))),
 o 37 (.p (.loadN 2 (t 36))),
 mv 38 0,
 mv 39 2,
 o 40 (.p (.indexAddr 2 (t 38) (t 39))),
 o 41 (.p (.loadN 2 (t 40))),
 mv 42 0,
 mv 43 3,
 o 44 (.p (.indexAddr 2 (t 42) (t 43))),
 o 45 (.p (.loadN 2 (t 44))),
 o 46 (.e (.call (.func 65) [t 37, t 41, t 45]))])
 (.block 2
 (.seq
 (.region 0 [1, 2, 3, 10, 46, 47] [
 o 48 (.p (.bin .eql (t 46) (.const (.int .i64 0)))),
 mv 47 48])
 (.cond (t 47)
 (.seq
 (.region 0 [8, 9] [
 o 8 (.p (.move (.const (.pointer none)))),
 o 9 (.p (.move (.const (.bool false))))])
 .ret)
 (.seq
 (.region 0 [1, 2, 3, 10, 49] [
 o 50 (.p (.bin .eql (t 46) (.const (.int .i64 (-1))))),
 mv 49 50])
 (.cond (t 49)
 (.region 0 [1, 2, 3, 10] [
 mv 51 3,
 mv 52 2,
 mv 2 51,
 mv 3 52])
 .skip))))))
 c_mesh_New_r0))))⟩

/-- isohyet/grow.Insert -/
@[reducible] def n_grow_Insert : Nat := 33
def c_grow_Insert_lp0 : CCode :=
 (.seq
 (.region 0 [0, 1, 10, 11, 12, 56, 57, 58, 59] [
 o 59 (.p (.bin .lss (t 58) (t 57)))])
 (.seq
 (.cond (t 59)
 .skip
 (.exit 0))
 (.seq
 (.block 1
 (.seq
 (.region 0 [0, 1, 10, 11, 12, 14, 56, 57, 58] [
 o 60 (.p (.indexAddr 1 (t 56) (t 58))),
 o 61 (.p (.load1 (t 60))),
 mv 14 61])
 (.region 0 [0, 1, 10, 11, 12, 56, 57, 58] [
 mv 62 0,
 mv 63 14,
 o 64 (.e (.call (.func 71) [t 62, t 63]))])))
 (.region 0 [0, 1, 10, 11, 12, 56, 57, 58] [
 o 65 (.p (.bin .add (t 58) (.const (.int .i64 1)))),
 mv 58 65]))))
def c_grow_Insert_lp1 : CCode :=
 (.seq
 (.region 0 [0, 1, 10, 11, 12, 15, 67, 68, 69, 70] [
 o 70 (.p (.bin .lss (t 69) (t 68)))])
 (.seq
 (.cond (t 70)
 .skip
 (.exit 2))
 (.seq
 (.block 3
 (.seq
 (.region 1 [0, 1, 10, 11, 12, 15, 17, 67, 68, 69] [
 o 71 (.p (.indexAddr 5 (t 67) (t 69))),
 o 72 (.p (.loadN 5 (t 71))),
 o 17 (.a 0 (.alloc [.int .i64 0, .int .i64 0, .int .i64 0, .int .i64 0, .bool false])),
 p (.e (.store 5 (t 17) (t 72)))])
 (.seq
 (.region 0 [0, 1, 10, 11, 12, 15, 17, 18, 67, 68, 69] [
 mv 73 0,
 o 74 (.p (.fieldAddr 0 (t 17))),
 o 75 (.p (.load1 (t 74))),
 o 76 (.p (.fieldAddr 1 (t 17))),
 o 77 (.p (.load1 (t 76))),
 mv 78 1,
 o 79 (.e (.call (.func 66) [t 73, t 75, t 77, t 78])),
 mv 18 79])
 (.seq
 (.region 0 [0, 1, 10, 11, 12, 15, 18, 67, 68, 69] [
 mv 80 0,
 mv 81 18,
 o 82 (.p (.fieldAddr 2 (t 17))),
 o 83 (.p (.load1 (t 82))),
 o 84 (.p (.fieldAddr 3 (t 17))),
 o 85 (.p (.load1 (t 84))),
 o 86 (.p (.fieldAddr 4 (t 17))),
 o 87 (.p (.load1 (t 86))),
 o 88 (.e (.call (.func 67) [t 80, t 81, .const (.int .i64 2), t 83, t 85, t 87]))])
 (.region 1 [0, 1, 10, 11, 12, 15, 67, 68, 69] [
 mv 89 15,
 mv 90 18,
 o 91 (.a 0 (.buildSlice 1 1 [.int .i64 0] [(0, 1, t 90)])),
 o 92 (.e (.append 1 8 (t 89) (t 91))),
 mv 15 92])))))
 (.region 0 [0, 1, 10, 11, 12, 15, 67, 68, 69] [
 o 93 (.p (.bin .add (t 69) (.const (.int .i64 1)))),
 mv 69 93]))))
def c_grow_Insert_lp2 : CCode :=
 (.seq
 (.region 0 [0, 10, 11, 15, 95, 96, 97, 98] [
 o 98 (.p (.bin .lss (t 97) (t 96)))])
 (.seq
 (.cond (t 98)
 .skip
 (.exit 4))
 (.seq
 (.block 5
 (.seq
 (.region 1 [0, 10, 11, 15, 19, 20, 95, 96, 97] [
 mv 99 97,
 o 100 (.p (.indexAddr 5 (t 95) (t 97))),
 o 101 (.p (.loadN 5 (t 100))),
 o 20 (.a 0 (.alloc [.int .i64 0, .int .i64 0, .int .i64 0, .int .i64 0, .bool false])),
 mv 19 99,
 p (.e (.store 5 (t 20) (t 101)))])
 (.seq
 (.region 0 [0, 10, 11, 15, 19, 21, 95, 96, 97] [
 mv 102 11,
 mv 103 102,
 ⟨some 104, .p (.fieldAddr 1 (t 20)), (some (103, true)), none⟩,
 ⟨some 105, .p (.load1 (t 104)), (some (103, true)), none⟩,
 ⟨some 106, .p (.indexAddrA 2 1 (t 10) (.const (.int .i64 0))), (some (103, true)), none⟩,
 ⟨some 107, .p (.load1 (t 106)), (some (103, true)), none⟩,
 ⟨some 108, .p (.bin .eql (t 105) (t 107)), (some (103, true)), none⟩,
 ⟨some 109, .p (.move (t 108)), (some (103, true)), none⟩,
 ⟨some 110, .p (.fieldAddr 1 (t 20)), (some (109, false)), none⟩,
 ⟨some 111, .p (.load1 (t 110)), (some (109, false)), none⟩,
 ⟨some 112, .p (.indexAddrA 2 1 (t 10) (.const (.int .i64 1))), (some (109, false)), none⟩,
 ⟨some 113, .p (.load1 (t 112)), (some (109, false)), none⟩,
 ⟨some 114, .p (.bin .eql (t 111) (t 113)), (some (109, false)), none⟩,
 ⟨some 115, .p (.pick (t 109) (.const (.bool true)) (t 114)), (some (103, true)), none⟩,
 o 116 (.p (.pick (t 103) (t 115) (.const (.bool false)))),
 mv 21 116])
 (.region 0 [0, 10, 11, 15, 95, 96, 97] [
 mv 117 0,
 mv 118 15,
 mv 119 19,
 o 120 (.p (.indexAddr 1 (t 118) (t 119))),
 o 121 (.p (.load1 (t 120))),
 mv 122 15,
 mv 123 19,
 o 124 (.p (.bin .add (t 123) (.const (.int .i64 1)))),
 mv 125 15,
 o 126 (.p (.len (t 125))),
 o 127 (.p (.bin .rem (t 124) (t 126))),
 o 128 (.p (.indexAddr 1 (t 122) (t 127))),
 o 129 (.p (.load1 (t 128))),
 mv 130 21,
 o 131 (.e (.call (.func 67) [t 117, t 121, .const (.int .i64 0), t 129, .const (.int .i64 1), t 130]))]))))
 (.region 0 [0, 10, 11, 15, 95, 96, 97] [
 o 132 (.p (.bin .add (t 97) (.const (.int .i64 1)))),
 mv 97 132]))))
def c_grow_Insert : CFunc := ⟨false, 133, [.tmp 6],
 (.seq
 (.region 0 [0, 1, 2] [
 o 6 (.p (.move (.const (.bool false))))])
 (.seq
 (.region 1 [0, 1, 2, 7] [
 mv 22 0,
 o 23 (.p (.nilCheck (t 22))),
 o 24 (.p (.fieldAddr 0 (t 23))),
 o 25 (.p (.load1 (t 24))),
 mv 26 1,
 o 27 (.p (.indexAddr 2 (t 25) (t 26))),
 o 28 (.p (.loadN 2 (t 27))),
 o 7 (.a 0 (.alloc [.int .i64 0, .int .i64 0])),
 p (.e (.store 2 (t 7) (t 28)))])
 (.seq
 (.region 1 [0, 1, 7, 8] [
 mv 30 0,
 o 31 (.p (.loadN 2 (t 7))),
 mv 32 2,
 mv 33 0,
 o 34 (.p (.nilCheck (t 33))),
 o 35 (.p (.fieldAddr 1 (t 34))),
 o 36 (.p (.load1 (t 35))),
 o 37 (.p (.len (t 36))),
 o 38 (.p (.bin .add (t 37) (.const (.int .i64 1)))),
 o 39 (.e (.call (.func 68) [t 30, t 31, t 32, t 38])),
 mv 29 39,
 o 40 (.p (.extract (t 29) 0)),
 o 41 (.p (.extract (t 29) 1)),
 o 8 (.a 0 (.alloc [.int .i64 0, .int .i64 0, .int .i64 0, .int .i64 0])),
 p (.e (.store 4 (t 8) (t 40))),
 mv 9 41])
 (.seq
 (.seq
 (.region 0 [0, 1, 7, 8, 44] [
 o 42 (.p (.fieldAddr 0 (t 8))),
 o 43 (.p (.load1 (t 42))),
 o 44 (.p (.bin .eql (t 43) (.const (.int .i64 2))))])
 (.cond (t 44)
 (.seq
 (.region 0 [6] [
 o 6 (.p (.move (.const (.bool false))))])
 .ret)
 .skip))
 (.seq
 (.region 1 [0, 1, 7, 8, 10, 11] [
 mv 46 0,
 o 47 (.p (.loadN 4 (t 8))),
 o 48 (.e (.call (.func 69) [t 46, t 47])),
 mv 45 48,
 o 49 (.p (.extract (t 45) 0)),
 o 50 (.p (.extract (t 45) 1)),
 o 10 (.a 0 (.alloc [.int .i64 0, .int .i64 0])),
 p (.e (.store 2 (t 10) (t 49))),
 mv 11 50])
 (.seq
 (.region 1 [0, 1, 10, 11, 12] [
 mv 51 0,
 o 52 (.p (.loadN 2 (t 7))),
 o 53 (.p (.loadN 4 (t 8))),
 o 54 (.e (.call (.func 70) [t 51, t 52, t 53])),
 o 12 (.a 0 (.alloc [.slice none 0 0, .slice none 0 0, .bool false])),
 p (.e (.store 3 (t 12) (t 54)))])
 (.seq
 (.seq
 (.region 0 [0, 1, 10, 11, 12, 56, 57, 58] [
 o 55 (.p (.fieldAddr 0 (t 12))),
 o 56 (.p (.load1 (t 55))),
 o 57 (.p (.len (t 56))),
 o 58 (.p (.move (.const (.int .i64 0))))])
 (.block 0
 (.loop [0, 1, 10, 11, 12, 56, 57, 58] c_grow_Insert_lp0)))
 (.seq
 (.region 0 [0, 1, 10, 11, 12, 15] [
 o 15 (.p (.move (.const (.slice none 0 0))))])
 (.seq
 (.seq
 (.region 0 [0, 1, 10, 11, 12, 15, 67, 68, 69] [
 o 66 (.p (.fieldAddr 1 (t 12))),
 o 67 (.p (.load1 (t 66))),
 o 68 (.p (.len (t 67))),
 o 69 (.p (.move (.const (.int .i64 0))))])
 (.block 2
 (.loop [0, 1, 10, 11, 12, 15, 67, 68, 69] c_grow_Insert_lp1)))
 (.seq
 (.seq
 (.region 0 [0, 10, 11, 15, 95, 96, 97] [
 o 94 (.p (.fieldAddr 1 (t 12))),
 o 95 (.p (.load1 (t 94))),
 o 96 (.p (.len (t 95))),
 o 97 (.p (.move (.const (.int .i64 0))))])
 (.block 4
 (.loop [0, 10, 11, 15, 95, 96, 97] c_grow_Insert_lp2)))
 (.seq
 (.region 0 [6] [
 o 6 (.p (.move (.const (.bool true))))])
 .ret)))))))))))⟩

/-- (*isohyet/mesh.Mesh).At -/
@[reducible] def n_Mesh_At : Nat := 34
def c_Mesh_At : CFunc := ⟨true, 12, [.tmp 4],
 (.seq
 (.region 0 [0, 1] [
 o 4 (.p (.move (.const (.int .i64 0))))])
 (.seq
 (.region 0 [4] [
 mv 5 0,
 o 6 (.p (.nilCheck (t 5))),
 o 7 (.p (.fieldAddr 3 (t 6))),
 o 8 (.p (.load1 (t 7))),
 mv 9 1,
 o 10 (.p (.indexAddr 1 (t 8) (t 9))),
 o 11 (.p (.load1 (t 10))),
 mv 4 11])
 .ret))⟩

/-- (*isohyet/mesh.Mesh).All -/
@[reducible] def n_Mesh_All : Nat := 39
def c_Mesh_All : CFunc := ⟨false, 4, [.tmp 2],
 (.seq
 (.region 1 [1] [
 o 1 (.a 0 (.box (t 0))),
 o 2 (.p (.move (.const (.nilFunc))))])
 (.seq
 (.region 0 [2] [
 o 3 (.p (.makeFunc 80 [t 1])),
 mv 2 3])
 .ret))⟩

/-- isohyet/walk.Holds -/
@[reducible] def n_walk_Holds : Nat := 40
def c_walk_Holds : CFunc := ⟨true, 34, [.tmp 6],
 (.seq
 (.region 1 [0, 1, 5] [
 o 5 (.a 0 (.box (t 2))),
 o 6 (.p (.move (.const (.bool false))))])
 (.seq
 (.region 1 [0, 5, 7] [
 mv 8 0,
 o 9 (.p (.nilCheck (t 8))),
 o 10 (.p (.fieldAddr 1 (t 9))),
 o 11 (.p (.load1 (t 10))),
 mv 12 1,
 o 13 (.p (.indexAddr 9 (t 11) (t 12))),
 o 14 (.p (.loadN 9 (t 13))),
 o 7 (.a 0 (.alloc [.int .i64 0, .int .i64 0, .int .i64 0, .int .i64 0, .int .i64 0, .int .i64 0, .bool false, .bool false, .bool false])),
 p (.e (.store 9 (t 7) (t 14)))])
 (.seq
 (.region 0 [6] [
 mv 15 0,
 o 16 (.p (.loadN 9 (t 7))),
 o 17 (.p (.loadN 2 (t 5))),
 o 18 (.e (.call (.func 43) [t 15, t 16, .const (.int .i64 0), t 17])),
 o 19 (.p (.un .not (t 18))),
 mv 20 19,
 ⟨some 21, .p (.move (t 0)), (some (20, true)), none⟩,
 ⟨some 22, .p (.loadN 9 (t 7)), (some (20, true)), none⟩,
 ⟨some 23, .p (.loadN 2 (t 5)), (some (20, true)), none⟩,
 ⟨some 24, .e (.call (.func 43) [t 21, t 22, .const (.int .i64 1), t 23]), (some (20, true)), none⟩,
 ⟨some 25, .p (.un .not (t 24)), (some (20, true)), none⟩,
 o 26 (.p (.pick (t 20) (t 25) (.const (.bool false)))),
 mv 27 26,
 ⟨some 28, .p (.move (t 0)), (some (27, true)), none⟩,
 ⟨some 29, .p (.loadN 9 (t 7)), (some (27, true)), none⟩,
 ⟨some 30, .p (.loadN 2 (t 5)), (some (27, true)), none⟩,
 ⟨some 31, .e (.call (.func 43) [t 28, t 29, .const (.int .i64 2), t 30]), (some (27, true)), none⟩,
 ⟨some 32, .p (.un .not (t 31)), (some (27, true)), none⟩,
 o 33 (.p (.pick (t 27) (t 32) (.const (.bool false)))),
 mv 6 33])
 .ret)))⟩

/-- isohyet/walk.within -/
@[reducible] def n_walk_within : Nat := 41
def c_walk_within_lp0 : CCode :=
 (.seq
 (.region 0 [0, 1, 5, 6, 7, 21, 22, 23] [
 o 23 (.p (.bin .lss (t 22) (.const (.int .i64 3))))])
 (.seq
 (.cond (t 23)
 .skip
 (.exit 0))
 (.seq
 (.block 1
 (.seq
 (.region 0 [0, 1, 5, 6, 7, 9, 21, 22] [
 o 24 (.p (.index 3 1 false (t 21) (t 22))),
 mv 9 24])
 (.seq
 (.region 0 [0, 1, 5, 6, 7, 9, 21, 22, 33] [
 mv 25 0,
 o 26 (.p (.nilCheck (t 25))),
 o 27 (.p (.fieldAddr 0 (t 26))),
 o 28 (.p (.load1 (t 27))),
 mv 29 9,
 o 30 (.p (.indexAddr 2 (t 28) (t 29))),
 o 31 (.p (.loadN 2 (t 30))),
 o 32 (.p (.loadN 2 (t 5))),
 o 33 (.p (.eq false (.agg [true, true]) (t 31) (t 32)))])
 (.cond (t 33)
 (.seq
 (.region 0 [6] [
 mv 34 1,
 mv 35 9,
 o 36 (.p (.build [.int .i64 0, .int .i64 0, .int .i64 0, .int .i64 0] [(0, 1, .const (.int .i64 2)), (1, 1, t 34), (2, 1, t 35)])),
 p (.e (.store 4 (t 6) (t 36)))])
 .ret)
 .skip))))
 (.region 0 [0, 1, 5, 6, 7, 21, 22] [
 o 37 (.p (.bin .add (t 22) (.const (.int .i64 1)))),
 mv 22 37]))))
def c_walk_within_lp1 : CCode :=
 (.seq
 (.region 0 [0, 1, 5, 6, 7, 38, 39] [
 o 39 (.p (.bin .lss (t 38) (.const (.int .i64 3))))])
 (.seq
 (.cond (t 39)
 .skip
 (.exit 2))
 (.seq
 (.block 3
 (.seq
 (.region 0 [0, 1, 5, 6, 7, 10, 38] [
 mv 40 38,
 mv 10 40])
 (.seq
 (.region 0 [0, 1, 5, 6, 7, 11, 12, 38] [
 mv 41 10,
 o 42 (.p (.bin .add (t 41) (.const (.int .i64 1)))),
 o 43 (.p (.bin .rem (t 42) (.const (.int .i64 3)))),
 o 44 (.p (.indexAddrA 3 1 (t 7) (t 43))),
 o 45 (.p (.load1 (t 44))),
 mv 46 10,
 o 47 (.p (.bin .add (t 46) (.const (.int .i64 2)))),
 o 48 (.p (.bin .rem (t 47) (.const (.int .i64 3)))),
 o 49 (.p (.indexAddrA 3 1 (t 7) (t 48))),
 o 50 (.p (.load1 (t 49))),
 mv 11 45,
 mv 12 50])
 (.seq
 (.region 0 [0, 1, 5, 6, 7, 11, 12, 38, 67] [
 mv 51 0,
 o 52 (.p (.nilCheck (t 51))),
 o 53 (.p (.fieldAddr 0 (t 52))),
 o 54 (.p (.load1 (t 53))),
 mv 55 11,
 o 56 (.p (.indexAddr 2 (t 54) (t 55))),
 o 57 (.p (.loadN 2 (t 56))),
 mv 58 0,
 o 59 (.p (.nilCheck (t 58))),
 o 60 (.p (.fieldAddr 0 (t 59))),
 o 61 (.p (.load1 (t 60))),
 mv 62 12,
 o 63 (.p (.indexAddr 2 (t 61) (t 62))),
 o 64 (.p (.loadN 2 (t 63))),
 o 65 (.p (.loadN 2 (t 5))),
 o 66 (.e (.call (.func 65) [t 57, t 64, t 65])),
 o 67 (.p (.bin .eql (t 66) (.const (.int .i64 0))))])
 (.cond (t 67)
 (.seq
 (.region 0 [6] [
 mv 68 1,
 mv 69 11,
 mv 70 12,
 o 71 (.p (.min [t 69, t 70])),
 mv 72 11,
 mv 73 12,
 o 74 (.p (.max [t 72, t 73])),
 o 75 (.p (.build [.int .i64 0, .int .i64 0, .int .i64 0, .int .i64 0] [(0, 1, .const (.int .i64 1)), (1, 1, t 68), (2, 1, t 71), (3, 1, t 74)])),
 p (.e (.store 4 (t 6) (t 75)))])
 .ret)
 .skip)))))
 (.region 0 [0, 1, 5, 6, 7, 38] [
 o 76 (.p (.bin .add (t 38) (.const (.int .i64 1)))),
 mv 38 76]))))
def c_walk_within : CFunc := ⟨true, 79, [.cellN 6 4],
 (.seq
 (.region 2 [0, 1, 5, 6] [
 o 5 (.a 0 (.box (t 2))),
 o 6 (.a 1 (.alloc [.int .i64 0, .int .i64 0, .int .i64 0, .int .i64 0]))])
 (.seq
 (.region 1 [0, 1, 5, 6, 7] [
 mv 13 0,
 o 14 (.p (.nilCheck (t 13))),
 o 15 (.p (.fieldAddr 1 (t 14))),
 o 16 (.p (.load1 (t 15))),
 mv 17 1,
 o 18 (.p (.indexAddr 9 (t 16) (t 17))),
 o 19 (.p (.fieldAddr 0 (t 18))),
 o 20 (.p (.loadN 3 (t 19))),
 o 7 (.a 0 (.alloc [.int .i64 0, .int .i64 0, .int .i64 0])),
 p (.e (.store 3 (t 7) (t 20)))])
 (.seq
 (.seq
 (.region 0 [0, 1, 5, 6, 7, 21, 22] [
 o 21 (.p (.loadN 3 (t 7))),
 o 22 (.p (.move (.const (.int .i64 0))))])
 (.block 0
 (.loop [0, 1, 5, 6, 7, 21, 22] c_walk_within_lp0)))
 (.seq
 (.seq
 (.region 0 [0, 1, 5, 6, 7, 38] [
 o 38 (.p (.move (.const (.int .i64 0))))])
 (.block 2
 (.loop [0, 1, 5, 6, 7, 38] c_walk_within_lp1)))
 (.seq
 (.region 0 [6] [
 mv 77 1,
 o 78 (.p (.build [.int .i64 0, .int .i64 0, .int .i64 0, .int .i64 0] [(0, 1, .const (.int .i64 0)), (1, 1, t 77)])),
 p (.e (.store 4 (t 6) (t 78)))])
 .ret)))))⟩

/-- (*isohyet/mesh.Mesh).Real -/
@[reducible] def n_Mesh_Real : Nat := 42
def c_Mesh_Real : CFunc := ⟨true, 38, [.tmp 4],
 (.seq
 (.region 0 [0, 1] [
 o 4 (.p (.move (.const (.bool false))))])
 (.seq
 (.seq
 (.region 0 [0, 1, 16] [
 mv 6 1,
 o 7 (.p (.bin .lss (t 6) (.const (.int .i64 0)))),
 mv 8 7,
 ⟨some 9, .p (.move (t 1)), (some (8, false)), none⟩,
 ⟨some 10, .p (.move (t 0)), (some (8, false)), none⟩,
 ⟨some 11, .p (.nilCheck (t 10)), (some (8, false)), none⟩,
 ⟨some 12, .p (.fieldAddr 1 (t 11)), (some (8, false)), none⟩,
 ⟨some 13, .p (.load1 (t 12)), (some (8, false)), none⟩,
 ⟨some 14, .p (.len (t 13)), (some (8, false)), none⟩,
 ⟨some 15, .p (.bin .geq (t 9) (t 14)), (some (8, false)), none⟩,
 o 16 (.p (.pick (t 8) (.const (.bool true)) (t 15)))])
 (.cond (t 16)
 (.seq
 (.region 0 [4] [
 o 4 (.p (.move (.const (.bool false))))])
 .ret)
 .skip))
 (.seq
 (.region 1 [5] [
 mv 17 0,
 o 18 (.p (.nilCheck (t 17))),
 o 19 (.p (.fieldAddr 1 (t 18))),
 o 20 (.p (.load1 (t 19))),
 mv 21 1,
 o 22 (.p (.indexAddr 9 (t 20) (t 21))),
 o 23 (.p (.fieldAddr 0 (t 22))),
 o 24 (.p (.loadN 3 (t 23))),
 o 5 (.a 0 (.alloc [.int .i64 0, .int .i64 0, .int .i64 0])),
 p (.e (.store 3 (t 5) (t 24)))])
 (.seq
 (.region 0 [4] [
 o 25 (.p (.indexAddrA 3 1 (t 5) (.const (.int .i64 0)))),
 o 26 (.p (.load1 (t 25))),
 o 27 (.p (.bin .geq (t 26) (.const (.int .i64 0)))),
 mv 28 27,
 ⟨some 29, .p (.indexAddrA 3 1 (t 5) (.const (.int .i64 1))), (some (28, true)), none⟩,
 ⟨some 30, .p (.load1 (t 29)), (some (28, true)), none⟩,
 ⟨some 31, .p (.bin .geq (t 30) (.const (.int .i64 0))), (some (28, true)), none⟩,
 o 32 (.p (.pick (t 28) (t 31) (.const (.bool false)))),
 mv 33 32,
 ⟨some 34, .p (.indexAddrA 3 1 (t 5) (.const (.int .i64 2))), (some (33, true)), none⟩,
 ⟨some 35, .p (.load1 (t 34)), (some (33, true)), none⟩,
 ⟨some 36, .p (.bin .geq (t 35) (.const (.int .i64 0))), (some (33, true)), none⟩,
 o 37 (.p (.pick (t 33) (t 36) (.const (.bool false)))),
 mv 4 37])
 .ret))))⟩

/-- isohyet/walk.beyond -/
@[reducible] def n_walk_beyond : Nat := 43
def c_walk_beyond : CFunc := ⟨true, 36, [.tmp 8],
 (.seq
 (.region 2 [0, 2, 5, 7] [
 o 5 (.a 0 (.box (t 1))),
 o 7 (.a 1 (.box (t 3))),
 o 8 (.p (.move (.const (.bool false))))])
 (.seq
 (.region 0 [8] [
 mv 9 0,
 o 10 (.p (.nilCheck (t 9))),
 o 11 (.p (.fieldAddr 0 (t 10))),
 o 12 (.p (.load1 (t 11))),
 mv 13 2,
 o 14 (.p (.bin .add (t 13) (.const (.int .i64 1)))),
 o 15 (.p (.bin .rem (t 14) (.const (.int .i64 3)))),
 o 16 (.p (.fieldAddr 0 (t 5))),
 o 17 (.p (.indexAddrA 3 1 (t 16) (t 15))),
 o 18 (.p (.load1 (t 17))),
 o 19 (.p (.indexAddr 2 (t 12) (t 18))),
 o 20 (.p (.loadN 2 (t 19))),
 mv 21 0,
 o 22 (.p (.nilCheck (t 21))),
 o 23 (.p (.fieldAddr 0 (t 22))),
 o 24 (.p (.load1 (t 23))),
 mv 25 2,
 o 26 (.p (.bin .add (t 25) (.const (.int .i64 2)))),
 o 27 (.p (.bin .rem (t 26) (.const (.int .i64 3)))),
 o 28 (.p (.fieldAddr 0 (t 5))),
 o 29 (.p (.indexAddrA 3 1 (t 28) (t 27))),
 o 30 (.p (.load1 (t 29))),
 o 31 (.p (.indexAddr 2 (t 24) (t 30))),
 o 32 (.p (.loadN 2 (t 31))),
 o 33 (.p (.loadN 2 (t 7))),
 o 34 (.e (.call (.func 65) [t 20, t 32, t 33])),
 o 35 (.p (.bin .lss (t 34) (.const (.int .i64 0)))),
 mv 8 35])
 .ret))⟩

/-- isohyet/march.Steps$1 -/
@[reducible] def n_march_Steps_1 : Nat := 44
def c_march_Steps_1_lp0 : CCode :=
 (.seq
 (.region 0 [1, 2, 3, 4, 5, 24, 25, 26] [
 o 26 (.p (.bin .lss (t 25) (t 24)))])
 (.seq
 (.cond (t 26)
 .skip
 (.exit 0))
 (.seq
 (.block 1
 (.seq
 (.region 0 [1, 2, 3, 4, 5, 6, 24, 25] [
 mv 27 25,
 mv 6 27])
 (.region 0 [1, 2, 3, 4, 5, 24, 25] [
 l 28 0 1 (.p (.load1 (t 5))),
 mv 29 6,
 o 30 (.p (.load1 (t 2))),
 mv 31 6,
 o 32 (.p (.indexAddr 1 (t 30) (t 31))),
 o 33 (.p (.load1 (t 32))),
 o 34 (.p (.loadN 3 (t 3))),
 o 35 (.e (.call (.func 45) [t 33, t 34])),
 o 36 (.p (.indexAddr 1 (t 28) (t 29))),
 p (.e (.store 1 (t 36) (t 35)))])))
 (.region 0 [1, 2, 3, 4, 5, 24, 25] [
 o 37 (.p (.bin .add (t 25) (.const (.int .i64 1)))),
 mv 25 37]))))
def c_march_Steps_1_r0 : CCode :=
 (.seq
 (.seq
 (.region 0 [102] [
 o 99 (.p (.load1 (t 4))),
 o 100 (.p (.loadN 5 (t 13))),
 o 101 (.e (.call (t 99) [t 100])),
 o 102 (.p (.un .not (t 101)))])
 (.cond (t 102)
 .ret
 .skip))
 (.exit 3))
def c_march_Steps_1_lp1 : CCode :=
 (.seq
 (.region 0 [4, 5, 7, 8, 43, 44, 45] [
 o 45 (.p (.bin .lss (t 44) (.const (.int .i64 3))))])
 (.seq
 (.cond (t 45)
 .skip
 (.exit 4))
 (.seq
 (.block 5
 (.seq
 (.region 0 [4, 5, 7, 8, 9, 10, 43, 44] [
 mv 46 44,
 o 47 (.p (.index 3 1 false (t 43) (t 44))),
 mv 9 46,
 mv 10 47])
 (.seq
 (.region 0 [4, 5, 7, 8, 10, 11, 12, 43, 44] [
 mv 48 9,
 o 49 (.p (.bin .add (t 48) (.const (.int .i64 1)))),
 o 50 (.p (.bin .rem (t 49) (.const (.int .i64 3)))),
 o 51 (.p (.fieldAddr 0 (t 8))),
 o 52 (.p (.indexAddrA 3 1 (t 51) (t 50))),
 o 53 (.p (.load1 (t 52))),
 mv 54 9,
 o 55 (.p (.bin .add (t 54) (.const (.int .i64 2)))),
 o 56 (.p (.bin .rem (t 55) (.const (.int .i64 3)))),
 o 57 (.p (.fieldAddr 0 (t 8))),
 o 58 (.p (.indexAddrA 3 1 (t 57) (t 56))),
 o 59 (.p (.load1 (t 58))),
 mv 11 53,
 mv 12 59])
 (.seq
 (.seq
 (.region 0 [4, 5, 7, 8, 10, 11, 12, 43, 44, 79] [
 o 60 (.p (.load1 (t 5))),
 mv 61 10,
 o 62 (.p (.indexAddr 1 (t 60) (t 61))),
 o 63 (.p (.load1 (t 62))),
 o 64 (.p (.load1 (t 5))),
 mv 65 11,
 o 66 (.p (.indexAddr 1 (t 64) (t 65))),
 o 67 (.p (.load1 (t 66))),
 o 68 (.p (.eq false .bool (t 63) (t 67))),
 mv 69 68,
 ⟨some 70, .p (.load1 (t 5)), (some (69, false)), none⟩,
 ⟨some 71, .p (.move (t 10)), (some (69, false)), none⟩,
 ⟨some 72, .p (.indexAddr 1 (t 70) (t 71)), (some (69, false)), none⟩,
 ⟨some 73, .p (.load1 (t 72)), (some (69, false)), none⟩,
 ⟨some 74, .p (.load1 (t 5)), (some (69, false)), none⟩,
 ⟨some 75, .p (.move (t 12)), (some (69, false)), none⟩,
 ⟨some 76, .p (.indexAddr 1 (t 74) (t 75)), (some (69, false)), none⟩,
 ⟨some 77, .p (.load1 (t 76)), (some (69, false)), none⟩,
 ⟨some 78, .p (.eq false .bool (t 73) (t 77)), (some (69, false)), none⟩,
 o 79 (.p (.pick (t 69) (.const (.bool true)) (t 78)))])
 (.cond (t 79)
 (.exit 5)
 .skip))
 (.seq
 (.region 1 [4, 5, 10, 13] [
 mv 80 7,
 mv 81 10,
 mv 82 11,
 o 83 (.e (.call (.func 46) [t 81, t 82])),
 mv 84 12,
 mv 85 10,
 o 86 (.e (.call (.func 46) [t 84, t 85])),
 o 87 (.p (.build [.int .i64 0, .int .i64 0, .int .i64 0, .int .i64 0, .int .i64 0] [(0, 1, t 80), (1, 2, t 83), (3, 2, t 86)])),
 o 13 (.a 0 (.alloc [.int .i64 0, .int .i64 0, .int .i64 0, .int .i64 0, .int .i64 0])),
 p (.e (.store 5 (t 13) (t 87)))])
 (.seq
 (.seq
 (.region 0 [4, 13, 92] [
 o 88 (.p (.load1 (t 5))),
 mv 89 10,
 o 90 (.p (.indexAddr 1 (t 88) (t 89))),
 o 91 (.p (.load1 (t 90))),
 o 92 (.p (.un .not (t 91)))])
 (.cond (t 92)
 (.region 0 [4, 13] [
 o 93 (.p (.fieldAddr 3 (t 13))),
 o 94 (.p (.loadN 2 (t 93))),
 o 95 (.p (.fieldAddr 1 (t 13))),
 o 96 (.p (.loadN 2 (t 95))),
 o 97 (.p (.fieldAddr 1 (t 13))),
 p (.e (.store 2 (t 97) (t 94))),
 o 98 (.p (.fieldAddr 3 (t 13))),
 p (.e (.store 2 (t 98) (t 96)))])
 .skip))
 c_march_Steps_1_r0))))))
 (.region 0 [4, 5, 7, 8, 43, 44] [
 o 103 (.p (.bin .add (t 44) (.const (.int .i64 1)))),
 mv 44 103]))))
def c_march_Steps_1_0a : CCode :=
 (.seq
 (.region 0 [4, 5, 7, 41] [
 mv 7 40])
 (.region 1 [4, 5, 7, 8] [
 o 8 (.a 0 (.alloc [.int .i64 0, .int .i64 0, .int .i64 0, .int .i64 0, .int .i64 0, .int .i64 0, .bool false, .bool false, .bool false])),
 p (.e (.store 9 (t 8) (t 41)))]))
def c_march_Steps_1_0b : CCode :=
 (.block 3
 (.seq
 (.region 0 [4, 5, 7, 8, 43, 44] [
 o 42 (.p (.fieldAddr 0 (t 8))),
 o 43 (.p (.loadN 3 (t 42))),
 o 44 (.p (.move (.const (.int .i64 0))))])
 (.block 4
 (.loop [4, 5, 7, 8, 43, 44] c_march_Steps_1_lp1))))
def c_march_Steps_1 : CFunc := ⟨false, 104, [],
 (.seq
 (.region 1 [1, 2, 3, 4] [
 o 4 (.a 0 (.box (t 0)))])
 (.scope
 (.seq
 (.region 2 [1, 2, 3, 4, 5] [
 o 14 (.p (.load1 (t 1))),
 o 15 (.p (.nilCheck (t 14))),
 o 16 (.p (.fieldAddr 0 (t 15))),
 o 17 (.p (.load1 (t 16))),
 o 18 (.p (.len (t 17))),
 o 19 (.a 0 (.makeSlice 1 1 [.bool false] (t 18) (t 18))),
 o 5 (.a 1 (.alloc [.slice none 0 0])),
 p (.e (.store 1 (t 5) (t 19)))])
 (.seq
 (.seq
 (.region 0 [1, 2, 3, 4, 5, 24, 25] [
 o 20 (.p (.load1 (t 1))),
 o 21 (.p (.nilCheck (t 20))),
 o 22 (.p (.fieldAddr 0 (t 21))),
 o 23 (.p (.load1 (t 22))),
 o 24 (.p (.len (t 23))),
 o 25 (.p (.move (.const (.int .i64 0))))])
 (.block 0
 (.loop [1, 2, 3, 4, 5, 24, 25] c_march_Steps_1_lp0)))
 (.seq
 .skip
 (.seq
 (.region 0 [4, 5, 39] [
 o 38 (.p (.load1 (t 1))),
 o 39 (.e (.call (.func 39) [t 38]))])
 (.block 2
 (.rangeFunc (t 39) [40, 41] c_march_Steps_1_0a c_march_Steps_1_0b))))))))⟩

/-- isohyet/march.Above -/
@[reducible] def n_march_Above : Nat := 45
def c_march_Above : CFunc := ⟨true, 10, [.tmp 4],
 (.seq
 (.region 1 [0, 3] [
 o 3 (.a 0 (.box (t 1))),
 o 4 (.p (.move (.const (.bool false))))])
 (.seq
 (.region 0 [4] [
 mv 5 0,
 o 6 (.e (.call (.func 10) [t 5])),
 l 7 1 0 (.p (.loadN 3 (t 3))),
 o 8 (.e (.call (.func 29) [t 6, t 7])),
 o 9 (.p (.bin .geq (t 8) (.const (.int .i64 0)))),
 mv 4 9])
 .ret))⟩

/-- isohyet/march.edge -/
@[reducible] def n_march_edge : Nat := 46
def c_march_edge : CFunc := ⟨true, 12, [.cellN 4 2],
 (.seq
 (.region 1 [0, 1, 4] [
 o 4 (.a 0 (.alloc [.int .i64 0, .int .i64 0]))])
 (.seq
 (.region 0 [4] [
 mv 5 0,
 mv 6 1,
 o 7 (.p (.min [t 5, t 6])),
 mv 8 0,
 mv 9 1,
 o 10 (.p (.max [t 8, t 9])),
 o 11 (.p (.build [.int .i64 0, .int .i64 0] [(0, 1, t 7), (1, 1, t 10)])),
 p (.e (.store 2 (t 4) (t 11)))])
 .ret))⟩

/-- (*isohyet/mesh.Mesh).Edges -/
@[reducible] def n_Mesh_Edges : Nat := 47
def c_Mesh_Edges : CFunc := ⟨false, 4, [.tmp 2],
 (.seq
 (.region 1 [1] [
 o 1 (.a 0 (.box (t 0))),
 o 2 (.p (.move (.const (.nilFunc))))])
 (.seq
 (.region 0 [2] [
 o 3 (.p (.makeFunc 81 [t 1])),
 mv 2 3])
 .ret))⟩

/-- isohyet/frac.Div -/
@[reducible] def n_frac_Div : Nat := 48
def c_frac_Div : CFunc := ⟨true, 19, [.cellN 4 3, .tmp 5],
 (.seq
 (.region 3 [2, 3, 4] [
 o 2 (.a 0 (.box (t 0))),
 o 3 (.a 1 (.box (t 1))),
 o 4 (.a 2 (.alloc [.bool false, .slice none 0 0, .slice none 0 0])),
 o 5 (.p (.move (.const (.bool false))))])
 (.seq
 (.region 0 [4, 5] [
 o 6 (.p (.fieldAddr 0 (t 2))),
 l 7 0 1 (.p (.loadN 2 (t 6))),
 o 8 (.p (.loadN 3 (t 3))),
 o 9 (.e (.call (.func 63) [t 8])),
 o 10 (.e (.call (.func 62) [t 7, t 9])),
 o 11 (.p (.fieldAddr 0 (t 3))),
 l 12 2 1 (.p (.loadN 2 (t 11))),
 l 13 2 0 (.p (.loadN 3 (t 2))),
 o 14 (.e (.call (.func 63) [t 13])),
 o 15 (.e (.call (.func 62) [t 12, t 14])),
 o 16 (.e (.call (.func 12) [t 10, t 15])),
 o 17 (.p (.extract (t 16) 0)),
 o 18 (.p (.extract (t 16) 1)),
 p (.e (.store 3 (t 4) (t 17))),
 mv 5 18])
 .ret))⟩

/-- isohyet/frac.Sub -/
@[reducible] def n_frac_Sub : Nat := 49
def c_frac_Sub : CFunc := ⟨true, 9, [.cellN 4 3],
 (.seq
 (.region 3 [2, 3, 4] [
 o 2 (.a 0 (.box (t 0))),
 o 3 (.a 1 (.box (t 1))),
 o 4 (.a 2 (.alloc [.bool false, .slice none 0 0, .slice none 0 0]))])
 (.seq
 (.region 0 [4] [
 l 5 0 1 (.p (.loadN 3 (t 2))),
 o 6 (.p (.loadN 3 (t 3))),
 o 7 (.e (.call (.func 85) [t 6])),
 o 8 (.e (.call (.func 84) [t 5, t 7])),
 p (.e (.store 3 (t 4) (t 8)))])
 .ret))⟩

/-- isohyet/spot.Along -/
@[reducible] def n_spot_Along : Nat := 50
def c_spot_Along : CFunc := ⟨true, 28, [.cellN 6 6],
 (.seq
 (.region 4 [3, 4, 5, 6] [
 o 3 (.a 0 (.box (t 0))),
 o 4 (.a 1 (.box (t 1))),
 o 5 (.a 2 (.box (t 2))),
 o 6 (.a 3 (.alloc [.bool false, .slice none 0 0, .slice none 0 0, .bool false, .slice none 0 0, .slice none 0 0]))])
 (.seq
 (.region 0 [6] [
 o 7 (.p (.fieldAddr 0 (t 3))),
 l 8 0 2 (.p (.loadN 3 (t 7))),
 l 9 0 1 (.p (.loadN 3 (t 5))),
 o 10 (.p (.fieldAddr 0 (t 4))),
 o 11 (.p (.loadN 3 (t 10))),
 o 12 (.p (.fieldAddr 0 (t 3))),
 o 13 (.p (.loadN 3 (t 12))),
 o 14 (.e (.call (.func 49) [t 11, t 13])),
 o 15 (.e (.call (.func 86) [t 9, t 14])),
 o 16 (.e (.call (.func 84) [t 8, t 15])),
 o 17 (.p (.fieldAddr 3 (t 3))),
 l 18 3 2 (.p (.loadN 3 (t 17))),
 l 19 3 1 (.p (.loadN 3 (t 5))),
 o 20 (.p (.fieldAddr 3 (t 4))),
 l 21 3 0 (.p (.loadN 3 (t 20))),
 o 22 (.p (.fieldAddr 3 (t 3))),
 l 23 3 0 (.p (.loadN 3 (t 22))),
 o 24 (.e (.call (.func 49) [t 21, t 23])),
 o 25 (.e (.call (.func 86) [t 19, t 24])),
 o 26 (.e (.call (.func 84) [t 18, t 25])),
 o 27 (.p (.build [.bool false, .slice none 0 0, .slice none 0 0, .bool false, .slice none 0 0, .slice none 0 0] [(0, 3, t 16), (3, 3, t 26)])),
 p (.e (.store 6 (t 6) (t 27)))])
 .ret))⟩

/-- isohyet/spot.Of -/
@[reducible] def n_spot_Of : Nat := 51
def c_spot_Of : CFunc := ⟨true, 10, [.cellN 2 6],
 (.seq
 (.region 2 [1, 2] [
 o 1 (.a 0 (.box (t 0))),
 o 2 (.a 1 (.alloc [.bool false, .slice none 0 0, .slice none 0 0, .bool false, .slice none 0 0, .slice none 0 0]))])
 (.seq
 (.region 0 [2] [
 o 3 (.p (.fieldAddr 0 (t 1))),
 o 4 (.p (.load1 (t 3))),
 o 5 (.e (.call (.func 10) [t 4])),
 o 6 (.p (.fieldAddr 1 (t 1))),
 l 7 1 0 (.p (.load1 (t 6))),
 o 8 (.e (.call (.func 10) [t 7])),
 o 9 (.p (.build [.bool false, .slice none 0 0, .slice none 0 0, .bool false, .slice none 0 0, .slice none 0 0] [(0, 3, t 5), (3, 3, t 8)])),
 p (.e (.store 6 (t 2) (t 9)))])
 .ret))⟩

/-- isohyet/frac.one -/
@[reducible] def n_frac_one : Nat := 52
def c_frac_one : CFunc := ⟨true, 2, [.tmp 0],
 (.seq
 (.region 0 [] [
 o 0 (.p (.move (.const (.slice none 0 0))))])
 (.seq
 (.region 1 [0] [
 o 1 (.a 0 (.buildSlice 1 1 [.int .u64 0] [(0, 1, .const (.int .u64 1))])),
 mv 0 1])
 .ret))⟩

/-- isohyet/mag.Of -/
@[reducible] def n_mag_Of : Nat := 53
def c_mag_Of : CFunc := ⟨true, 6, [.tmp 2],
 (.seq
 (.region 0 [0] [
 o 2 (.p (.move (.const (.slice none 0 0))))])
 (.seq
 (.region 1 [2] [
 mv 3 0,
 o 4 (.a 0 (.buildSlice 1 1 [.int .u64 0] [(0, 1, t 3)])),
 o 5 (.e (.call (.func 59) [t 4])),
 mv 2 5])
 .ret))⟩

/-- isohyet/mag.Len -/
@[reducible] def n_mag_Len : Nat := 54
def c_mag_Len : CFunc := ⟨true, 20, [.tmp 2],
 (.seq
 (.region 0 [0] [
 o 2 (.p (.move (.const (.int .i64 0))))])
 (.seq
 (.region 0 [0] [
 mv 3 0,
 o 4 (.e (.call (.func 59) [t 3])),
 mv 0 4])
 (.seq
 (.seq
 (.region 0 [0, 7] [
 mv 5 0,
 o 6 (.p (.len (t 5))),
 o 7 (.p (.bin .eql (t 6) (.const (.int .i64 0))))])
 (.cond (t 7)
 (.seq
 (.region 0 [2] [
 o 2 (.p (.move (.const (.int .i64 0))))])
 .ret)
 .skip))
 (.seq
 (.region 0 [2] [
 mv 8 0,
 o 9 (.p (.len (t 8))),
 o 10 (.p (.bin .sub (t 9) (.const (.int .i64 1)))),
 o 11 (.p (.bin .mul (.const (.int .i64 64)) (t 10))),
 mv 12 0,
 mv 13 0,
 o 14 (.p (.len (t 13))),
 o 15 (.p (.bin .sub (t 14) (.const (.int .i64 1)))),
 o 16 (.p (.indexAddr 1 (t 12) (t 15))),
 o 17 (.p (.load1 (t 16))),
 o 18 (.e (.call (.func 87) [t 17])),
 o 19 (.p (.bin .add (t 11) (t 18))),
 mv 2 19])
 .ret))))⟩

/-- isohyet/frac.lone -/
@[reducible] def n_frac_lone : Nat := 55
def c_frac_lone : CFunc := ⟨true, 12, [.tmp 2],
 (.seq
 (.region 0 [0] [
 o 2 (.p (.move (.const (.bool false))))])
 (.seq
 (.region 0 [2] [
 mv 3 0,
 o 4 (.p (.len (t 3))),
 o 5 (.p (.bin .eql (t 4) (.const (.int .i64 1)))),
 mv 6 5,
 ⟨some 7, .p (.move (t 0)), (some (6, true)), none⟩,
 ⟨some 8, .p (.indexAddr 1 (t 7) (.const (.int .i64 0))), (some (6, true)), none⟩,
 ⟨some 9, .p (.load1 (t 8)), (some (6, true)), none⟩,
 ⟨some 10, .p (.bin .eql (t 9) (.const (.int .u64 1))), (some (6, true)), none⟩,
 o 11 (.p (.pick (t 6) (t 10) (.const (.bool false)))),
 mv 2 11])
 .ret))⟩

/-- isohyet/mag.Gcd -/
@[reducible] def n_mag_Gcd : Nat := 56
def c_mag_Gcd_lp0 : CCode :=
 (.seq
 (.seq
 (.region 0 [0, 1, 37] [
 mv 25 1,
 o 26 (.p (.len (t 25))),
 o 27 (.p (.bin .gtr (t 26) (.const (.int .i64 1)))),
 mv 28 27,
 ⟨some 29, .p (.move (t 1)), (some (28, false)), none⟩,
 ⟨some 30, .p (.len (t 29)), (some (28, false)), none⟩,
 ⟨some 31, .p (.bin .eql (t 30) (.const (.int .i64 1))), (some (28, false)), none⟩,
 ⟨some 32, .p (.move (t 31)), (some (28, false)), none⟩,
 ⟨some 33, .p (.move (t 0)), (some (32, true)), none⟩,
 ⟨some 34, .p (.len (t 33)), (some (32, true)), none⟩,
 ⟨some 35, .p (.bin .gtr (t 34) (.const (.int .i64 1))), (some (32, true)), none⟩,
 ⟨some 36, .p (.pick (t 32) (t 35) (.const (.bool false))), (some (28, false)), none⟩,
 o 37 (.p (.pick (t 28) (.const (.bool true)) (t 36)))])
 (.cond (t 37)
 .skip
 (.exit 1)))
 (.block 2
 (.seq
 (.region 0 [1, 6] [
 mv 39 0,
 mv 40 1,
 o 41 (.e (.call (.func 57) [t 39, t 40])),
 mv 38 41,
 o 42 (.p (.extract (t 38) 0)),
 o 43 (.p (.extract (t 38) 1)),
 mv 5 42,
 mv 6 43])
 (.region 0 [0, 1] [
 mv 44 1,
 mv 45 6,
 mv 0 44,
 mv 1 45]))))
def c_mag_Gcd_lp1 : CCode :=
 (.seq
 (.seq
 (.region 0 [7, 8, 58] [
 mv 57 8,
 o 58 (.p (.bin .gtr (t 57) (.const (.int .u64 0))))])
 (.cond (t 58)
 .skip
 (.exit 3)))
 (.block 4
 (.region 0 [7, 8] [
 mv 59 8,
 mv 60 7,
 mv 61 8,
 o 62 (.p (.bin .rem (t 60) (t 61))),
 mv 7 59,
 mv 8 62])))
def c_mag_Gcd : CFunc := ⟨true, 65, [.tmp 4],
 (.seq
 (.region 0 [0, 1] [
 o 4 (.p (.move (.const (.slice none 0 0))))])
 (.seq
 (.region 0 [0, 1] [
 mv 9 0,
 o 10 (.e (.call (.func 59) [t 9])),
 mv 11 1,
 o 12 (.e (.call (.func 59) [t 11])),
 mv 0 10,
 mv 1 12])
 (.seq
 (.block 0
 (.seq
 (.region 0 [0, 1, 13] [
 mv 14 0,
 o 15 (.p (.len (t 14))),
 o 16 (.p (.bin .eql (t 15) (.const (.int .i64 0)))),
 mv 13 16])
 (.cond (t 13)
 (.seq
 (.region 0 [4] [
 mv 17 1,
 o 18 (.e (.append 1 8 (.const (.slice none 0 0)) (t 17))),
 mv 4 18])
 .ret)
 (.seq
 (.region 0 [0, 1, 19] [
 mv 20 1,
 o 21 (.p (.len (t 20))),
 o 22 (.p (.bin .eql (t 21) (.const (.int .i64 0)))),
 mv 19 22])
 (.cond (t 19)
 (.seq
 (.region 0 [4] [
 mv 23 0,
 o 24 (.e (.append 1 8 (.const (.slice none 0 0)) (t 23))),
 mv 4 24])
 .ret)
 .skip)))))
 (.seq
 (.block 1
 (.loop [0, 1] c_mag_Gcd_lp0))
 (.seq
 (.seq
 (.region 0 [0, 1, 48] [
 mv 46 1,
 o 47 (.p (.len (t 46))),
 o 48 (.p (.bin .eql (t 47) (.const (.int .i64 0))))])
 (.cond (t 48)
 (.seq
 (.region 0 [4] [
 mv 49 0,
 o 50 (.e (.append 1 8 (.const (.slice none 0 0)) (t 49))),
 mv 4 50])
 .ret)
 .skip))
 (.seq
 (.region 0 [7, 8] [
 mv 51 0,
 o 52 (.p (.indexAddr 1 (t 51) (.const (.int .i64 0)))),
 o 53 (.p (.load1 (t 52))),
 mv 54 1,
 o 55 (.p (.indexAddr 1 (t 54) (.const (.int .i64 0)))),
 o 56 (.p (.load1 (t 55))),
 mv 7 53,
 mv 8 56])
 (.seq
 (.block 3
 (.loop [7, 8] c_mag_Gcd_lp1))
 (.seq
 (.region 0 [4] [
 mv 63 7,
 o 64 (.e (.call (.func 53) [t 63])),
 mv 4 64])
 .ret))))))))⟩

/-- isohyet/mag.Div -/
@[reducible] def n_mag_Div : Nat := 57
def c_mag_Div_lp0 : CCode :=
 (.seq
 (.seq
 (.region 0 [8, 9, 10, 11, 12, 13, 75] [
 mv 74 13,
 o 75 (.p (.bin .geq (t 74) (.const (.int .i64 0))))])
 (.cond (t 75)
 .skip
 (.exit 1)))
 (.seq
 (.block 2
 (.seq
 (.region 0 [8, 9, 10, 11, 12, 13, 14] [
 mv 78 10,
 mv 79 13,
 mv 80 13,
 mv 81 11,
 o 82 (.p (.bin .add (t 80) (t 81))),
 o 83 (.p (.bin .add (t 82) (.const (.int .i64 1)))),
 o 84 (.p (.slice 1 (t 78) (some (t 79)) (some (t 83)))),
 mv 14 84])
 (.seq
 (.region 0 [8, 9, 10, 11, 12, 13, 14] [
 mv 85 12,
 mv 86 13,
 mv 87 14,
 mv 88 9,
 o 89 (.e (.call (.func 91) [t 87, t 88])),
 o 90 (.p (.indexAddr 1 (t 85) (t 86))),
 p (.e (.store 1 (t 90) (t 89)))])
 (.seq
 (.region 0 [8, 9, 10, 11, 12, 13, 14, 97] [
 mv 91 14,
 mv 92 9,
 mv 93 12,
 mv 94 13,
 o 95 (.p (.indexAddr 1 (t 93) (t 94))),
 o 96 (.p (.load1 (t 95))),
 o 97 (.e (.call (.func 92) [t 91, t 92, t 96]))])
 (.cond (t 97)
 (.seq
 (.region 0 [8, 9, 10, 11, 12, 13, 14] [
 mv 98 12,
 mv 99 13,
 o 100 (.p (.indexAddr 1 (t 98) (t 99))),
 o 101 (.p (.load1 (t 100))),
 o 102 (.p (.bin .sub (t 101) (.const (.int .u64 1)))),
 o 103 (.p (.indexAddr 1 (t 98) (t 99))),
 p (.e (.store 1 (t 103) (t 102)))])
 (.region 0 [8, 9, 10, 11, 12, 13] [
 mv 104 14,
 mv 105 9,
 o 106 (.e (.call (.func 93) [t 104, t 105]))]))
 .skip)))))
 (.region 0 [8, 9, 10, 11, 12, 13] [
 mv 76 13,
 o 77 (.p (.bin .sub (t 76) (.const (.int .i64 1)))),
 mv 13 77])))
def c_mag_Div : CFunc := ⟨true, 115, [.tmp 4, .tmp 5],
 (.seq
 (.region 0 [0, 1] [
 o 4 (.p (.move (.const (.slice none 0 0)))),
 o 5 (.p (.move (.const (.slice none 0 0))))])
 (.seq
 (.region 0 [0, 1] [
 mv 15 0,
 o 16 (.e (.call (.func 59) [t 15])),
 mv 17 1,
 o 18 (.e (.call (.func 59) [t 17])),
 mv 0 16,
 mv 1 18])
 (.seq
 (.block 0
 (.seq
 (.region 0 [0, 1, 19] [
 mv 20 1,
 o 21 (.p (.len (t 20))),
 o 22 (.p (.bin .eql (t 21) (.const (.int .i64 0)))),
 mv 23 22,
 ⟨some 24, .p (.move (t 0)), (some (23, false)), none⟩,
 ⟨some 25, .p (.move (t 1)), (some (23, false)), none⟩,
 ⟨some 26, .e (.call (.func 88) [t 24, t 25]), (some (23, false)), none⟩,
 ⟨some 27, .p (.bin .lss (t 26) (.const (.int .i64 0))), (some (23, false)), none⟩,
 o 28 (.p (.pick (t 23) (.const (.bool true)) (t 27))),
 mv 19 28])
 (.cond (t 19)
 (.seq
 (.region 0 [4, 5] [
 mv 29 0,
 o 30 (.e (.append 1 8 (.const (.slice none 0 0)) (t 29))),
 o 4 (.p (.move (.const (.slice none 0 0)))),
 mv 5 30])
 .ret)
 (.seq
 (.region 0 [0, 1, 31] [
 mv 32 1,
 o 33 (.p (.len (t 32))),
 o 34 (.p (.bin .eql (t 33) (.const (.int .i64 1)))),
 mv 31 34])
 (.cond (t 31)
 (.seq
 (.region 0 [6, 7] [
 mv 36 0,
 mv 37 1,
 o 38 (.p (.indexAddr 1 (t 37) (.const (.int .i64 0)))),
 o 39 (.p (.load1 (t 38))),
 o 40 (.e (.call (.func 89) [t 36, t 39])),
 mv 35 40,
 o 41 (.p (.extract (t 35) 0)),
 o 42 (.p (.extract (t 35) 1)),
 mv 6 41,
 mv 7 42])
 (.seq
 (.region 0 [4, 5] [
 mv 43 6,
 mv 44 7,
 o 45 (.e (.call (.func 53) [t 44])),
 mv 4 43,
 mv 5 45])
 .ret))
 .skip)))))
 (.seq
 (.region 0 [0, 1, 8] [
 mv 46 1,
 o 47 (.p (.len (t 46))),
 o 48 (.p (.bin .mul (.const (.int .i64 64)) (t 47))),
 mv 49 1,
 o 50 (.e (.call (.func 54) [t 49])),
 o 51 (.p (.bin .sub (t 48) (t 50))),
 mv 8 51])
 (.seq
 (.region 0 [0, 8, 9] [
 mv 52 1,
 mv 53 8,
 o 54 (.e (.call (.func 90) [t 52, t 53])),
 mv 9 54])
 (.seq
 (.region 1 [0, 8, 9, 10] [
 mv 55 0,
 o 56 (.p (.len (t 55))),
 o 57 (.p (.bin .add (t 56) (.const (.int .i64 1)))),
 o 58 (.a 0 (.makeSlice 1 8 [.int .u64 0] (t 57) (t 57))),
 mv 10 58])
 (.seq
 (.region 0 [8, 9, 10] [
 mv 59 10,
 mv 60 0,
 mv 61 8,
 o 62 (.e (.call (.func 90) [t 60, t 61])),
 o 63 (.e (.copy 1 (t 59) (t 62)))])
 (.seq
 (.region 0 [8, 9, 10, 11] [
 mv 64 9,
 o 65 (.p (.len (t 64))),
 mv 11 65])
 (.seq
 (.region 1 [8, 9, 10, 11, 12] [
 mv 66 10,
 o 67 (.p (.len (t 66))),
 mv 68 11,
 o 69 (.p (.bin .sub (t 67) (t 68))),
 o 70 (.a 0 (.makeSlice 1 8 [.int .u64 0] (t 69) (t 69))),
 mv 12 70])
 (.seq
 (.seq
 (.region 0 [8, 9, 10, 11, 12, 13] [
 mv 71 12,
 o 72 (.p (.len (t 71))),
 o 73 (.p (.bin .sub (t 72) (.const (.int .i64 1)))),
 mv 13 73])
 (.block 1
 (.loop [8, 9, 10, 11, 12, 13] c_mag_Div_lp0)))
 (.seq
 (.region 0 [4, 5] [
 mv 107 12,
 o 108 (.e (.call (.func 59) [t 107])),
 mv 109 10,
 mv 110 11,
 o 111 (.p (.slice 1 (t 109) none (some (t 110)))),
 o 112 (.e (.call (.func 59) [t 111])),
 mv 113 8,
 o 114 (.e (.call (.func 94) [t 112, t 113])),
 mv 4 108,
 mv 5 114])
 .ret)))))))))))⟩

@[reducible] def n_bits_Add64 : Nat := 58
/-- isohyet/mag.right -/
@[reducible] def n_mag_right : Nat := 59
def c_mag_right_lp0 : CCode :=
 (.seq
 (.seq
 (.region 0 [0, 14] [
 mv 3 0,
 o 4 (.p (.len (t 3))),
 o 5 (.p (.bin .gtr (t 4) (.const (.int .i64 0)))),
 mv 6 5,
 ⟨some 7, .p (.move (t 0)), (some (6, true)), none⟩,
 ⟨some 8, .p (.move (t 0)), (some (6, true)), none⟩,
 ⟨some 9, .p (.len (t 8)), (some (6, true)), none⟩,
 ⟨some 10, .p (.bin .sub (t 9) (.const (.int .i64 1))), (some (6, true)), none⟩,
 ⟨some 11, .p (.indexAddr 1 (t 7) (t 10)), (some (6, true)), none⟩,
 ⟨some 12, .p (.load1 (t 11)), (some (6, true)), none⟩,
 ⟨some 13, .p (.bin .eql (t 12) (.const (.int .u64 0))), (some (6, true)), none⟩,
 o 14 (.p (.pick (t 6) (t 13) (.const (.bool false))))])
 (.cond (t 14)
 .skip
 (.exit 0)))
 (.block 1
 (.region 0 [0] [
 mv 15 0,
 mv 16 0,
 o 17 (.p (.len (t 16))),
 o 18 (.p (.bin .sub (t 17) (.const (.int .i64 1)))),
 o 19 (.p (.slice 1 (t 15) none (some (t 18)))),
 mv 0 19])))
def c_mag_right : CFunc := ⟨true, 21, [.tmp 2],
 (.seq
 (.region 0 [0] [
 o 2 (.p (.move (.const (.slice none 0 0))))])
 (.seq
 (.block 0
 (.loop [0] c_mag_right_lp0))
 (.seq
 (.region 0 [2] [
 mv 20 0,
 mv 2 20])
 .ret)))⟩

/-- isohyet/frac.Sign -/
@[reducible] def n_frac_Sign : Nat := 60
def c_frac_Sign : CFunc := ⟨true, 6, [.tmp 2],
 (.seq
 (.region 1 [1] [
 o 1 (.a 0 (.box (t 0))),
 o 2 (.p (.move (.const (.int .i64 0))))])
 (.seq
 (.region 0 [2] [
 o 3 (.p (.fieldAddr 0 (t 1))),
 o 4 (.p (.loadN 2 (t 3))),
 o 5 (.e (.call (.func 26) [t 4])),
 mv 2 5])
 .ret))⟩

/-- isohyet/num.Cmp -/
@[reducible] def n_num_Cmp : Nat := 61
def c_num_Cmp : CFunc := ⟨true, 26, [.tmp 4],
 (.seq
 (.region 2 [2, 3] [
 o 2 (.a 0 (.box (t 0))),
 o 3 (.a 1 (.box (t 1))),
 o 4 (.p (.move (.const (.int .i64 0))))])
 (.seq
 (.region 0 [2, 3, 5, 6] [
 o 7 (.p (.loadN 2 (t 2))),
 o 8 (.e (.call (.func 26) [t 7])),
 l 9 1 0 (.p (.loadN 2 (t 3))),
 o 10 (.e (.call (.func 26) [t 9])),
 mv 5 8,
 mv 6 10])
 (.seq
 (.block 0
 (.seq
 (.region 0 [2, 3, 5, 6, 11] [
 mv 12 5,
 mv 13 6,
 o 14 (.p (.bin .lss (t 12) (t 13))),
 mv 11 14])
 (.cond (t 11)
 (.seq
 (.region 0 [4] [
 o 4 (.p (.move (.const (.int .i64 (-1)))))])
 .ret)
 (.seq
 (.region 0 [2, 3, 5, 15] [
 mv 16 5,
 mv 17 6,
 o 18 (.p (.bin .gtr (t 16) (t 17))),
 mv 15 18])
 (.cond (t 15)
 (.seq
 (.region 0 [4] [
 o 4 (.p (.move (.const (.int .i64 1))))])
 .ret)
 .skip)))))
 (.seq
 (.region 0 [4] [
 mv 19 5,
 o 20 (.p (.fieldAddr 1 (t 2))),
 o 21 (.p (.load1 (t 20))),
 o 22 (.p (.fieldAddr 1 (t 3))),
 o 23 (.p (.load1 (t 22))),
 o 24 (.e (.call (.func 88) [t 21, t 23])),
 o 25 (.p (.bin .mul (t 19) (t 24))),
 mv 4 25])
 .ret))))⟩

/-- isohyet/num.Mul -/
@[reducible] def n_num_Mul : Nat := 62
def c_num_Mul : CFunc := ⟨true, 16, [.cellN 4 2],
 (.seq
 (.region 3 [2, 3, 4] [
 o 2 (.a 0 (.box (t 0))),
 o 3 (.a 1 (.box (t 1))),
 o 4 (.a 2 (.alloc [.bool false, .slice none 0 0]))])
 (.seq
 (.region 0 [4] [
 o 5 (.p (.fieldAddr 0 (t 2))),
 l 6 0 1 (.p (.load1 (t 5))),
 o 7 (.p (.fieldAddr 0 (t 3))),
 l 8 0 1 (.p (.load1 (t 7))),
 o 9 (.p (.eq true .bool (t 6) (t 8))),
 o 10 (.p (.fieldAddr 1 (t 2))),
 o 11 (.p (.load1 (t 10))),
 o 12 (.p (.fieldAddr 1 (t 3))),
 o 13 (.p (.load1 (t 12))),
 o 14 (.e (.call (.func 95) [t 11, t 13])),
 o 15 (.e (.call (.func 13) [t 9, t 14])),
 p (.e (.store 2 (t 4) (t 15)))])
 .ret))⟩

/-- isohyet/frac.below -/
@[reducible] def n_frac_below : Nat := 63
def c_frac_below : CFunc := ⟨true, 6, [.cellN 2 2],
 (.seq
 (.region 2 [1, 2] [
 o 1 (.a 0 (.box (t 0))),
 o 2 (.a 1 (.alloc [.bool false, .slice none 0 0]))])
 (.seq
 (.region 0 [2] [
 o 3 (.p (.loadN 3 (t 1))),
 o 4 (.e (.call (.func 96) [t 3])),
 o 5 (.p (.build [.bool false, .slice none 0 0] [(1, 1, t 4)])),
 p (.e (.store 2 (t 2) (t 5)))])
 .ret))⟩

/-- isohyet/isohyetlaw06.Tame -/
@[reducible] def n_l06_Tame : Nat := 64
def c_l06_Tame : CFunc := ⟨true, 12, [.cellN 2 2],
 (.seq
 (.region 2 [1, 2] [
 o 1 (.a 0 (.box (t 0))),
 o 2 (.a 1 (.alloc [.int .i64 0, .int .i64 0]))])
 (.seq
 (.region 0 [2] [
 o 3 (.p (.fieldAddr 0 (t 1))),
 o 4 (.p (.load1 (t 3))),
 o 5 (.p (.max [t 4, .const (.int .i64 (-2147483648))])),
 o 6 (.p (.min [t 5, .const (.int .i64 2147483648)])),
 o 7 (.p (.fieldAddr 1 (t 1))),
 o 8 (.p (.load1 (t 7))),
 o 9 (.p (.max [t 8, .const (.int .i64 (-2147483648))])),
 o 10 (.p (.min [t 9, .const (.int .i64 2147483648)])),
 o 11 (.p (.build [.int .i64 0, .int .i64 0] [(0, 1, t 6), (1, 1, t 10)])),
 p (.e (.store 2 (t 2) (t 11)))])
 .ret))⟩

/-- isohyet/pred.Orient -/
@[reducible] def n_pred_Orient : Nat := 65
def c_pred_Orient : CFunc := ⟨true, 12, [.tmp 6],
 (.seq
 (.region 3 [3, 4, 5] [
 o 3 (.a 0 (.box (t 0))),
 o 4 (.a 1 (.box (t 1))),
 o 5 (.a 2 (.box (t 2))),
 o 6 (.p (.move (.const (.int .i64 0))))])
 (.seq
 (.region 0 [6] [
 o 7 (.p (.loadN 2 (t 3))),
 o 8 (.p (.loadN 2 (t 4))),
 o 9 (.p (.loadN 2 (t 5))),
 o 10 (.e (.call (.func 98) [t 7, t 8, t 9])),
 o 11 (.e (.call (.func 97) [t 10])),
 mv 6 11])
 .ret))⟩

/-- (*isohyet/mesh.Mesh).Make -/
@[reducible] def n_Mesh_Make : Nat := 66
def c_Mesh_Make_lp0 : CCode :=
 (.seq
 (.region 0 [0, 10, 68, 69, 70] [
 o 70 (.p (.bin .lss (t 69) (.const (.int .i64 3))))])
 (.seq
 (.cond (t 70)
 .skip
 (.exit 0))
 (.seq
 (.block 1
 (.seq
 (.region 0 [0, 10, 13, 68, 69] [
 o 71 (.p (.index 3 1 false (t 68) (t 69))),
 mv 13 71])
 (.seq
 (.region 0 [0, 10, 13, 68, 69, 73] [
 mv 72 13,
 o 73 (.p (.bin .geq (t 72) (.const (.int .i64 0))))])
 (.cond (t 73)
 (.region 0 [0, 10, 68, 69] [
 mv 74 0,
 o 75 (.p (.nilCheck (t 74))),
 o 76 (.p (.fieldAddr 3 (t 75))),
 o 77 (.p (.load1 (t 76))),
 mv 78 13,
 mv 79 10,
 o 80 (.p (.indexAddr 1 (t 77) (t 78))),
 p (.e (.store 1 (t 80) (t 79)))])
 .skip))))
 (.region 0 [0, 10, 68, 69] [
 o 81 (.p (.bin .add (t 69) (.const (.int .i64 1)))),
 mv 69 81]))))
def c_Mesh_Make_r0 : CCode :=
 (.seq
 (.seq
 (.region 0 [0, 10, 68, 69] [
 o 67 (.p (.fieldAddr 0 (t 9))),
 o 68 (.p (.loadN 3 (t 67))),
 o 69 (.p (.move (.const (.int .i64 0))))])
 (.block 0
 (.loop [0, 10, 68, 69] c_Mesh_Make_lp0)))
 (.seq
 (.region 0 [8] [
 mv 82 10,
 mv 8 82])
 .ret))
def c_Mesh_Make : CFunc := ⟨false, 83, [.tmp 8],
 (.seq
 (.region 0 [0, 1, 2, 3] [
 o 8 (.p (.move (.const (.int .i64 0))))])
 (.seq
 (.region 1 [0, 9] [
 mv 14 1,
 mv 15 2,
 mv 16 3,
 o 17 (.p (.build [.int .i64 0, .int .i64 0, .int .i64 0] [(0, 1, t 14), (1, 1, t 15), (2, 1, t 16)])),
 o 18 (.p (.build [.int .i64 0, .int .i64 0, .int .i64 0] [(0, 1, .const (.int .i64 (-1))), (1, 1, .const (.int .i64 (-1))), (2, 1, .const (.int .i64 (-1)))])),
 o 19 (.p (.build [.int .i64 0, .int .i64 0, .int .i64 0, .int .i64 0, .int .i64 0, .int .i64 0, .bool false, .bool false, .bool false] [(0, 3, t 17), (3, 3, t 18)])),
 o 9 (.a 0 (.alloc [.int .i64 0, .int .i64 0, .int .i64 0, .int .i64 0, .int .i64 0, .int .i64 0, .bool false, .bool false, .bool false])),
 p (.e (.store 9 (t 9) (t 19)))])
 (.seq
 (.region 0 [0, 9, 10] [
 mv 20 0,
 o 21 (.p (.nilCheck (t 20))),
 o 22 (.p (.fieldAddr 1 (t 21))),
 o 23 (.p (.load1 (t 22))),
 o 24 (.p (.len (t 23))),
 mv 10 24])
 (.seq
 (.seq
 (.region 0 [0, 9, 10, 11] [
 mv 25 0,
 o 26 (.p (.nilCheck (t 25))),
 o 27 (.p (.fieldAddr 2 (t 26))),
 o 28 (.p (.load1 (t 27))),
 o 29 (.p (.len (t 28))),
 mv 11 29])
 (.seq
 (.region 0 [0, 9, 10, 11, 31] [
 mv 30 11,
 o 31 (.p (.bin .gtr (t 30) (.const (.int .i64 0))))])
 (.cond (t 31)
 (.seq
 (.region 0 [0, 9, 10] [
 mv 32 0,
 mv 33 0,
 o 34 (.p (.nilCheck (t 33))),
 o 35 (.p (.fieldAddr 2 (t 34))),
 o 36 (.p (.load1 (t 35))),
 mv 37 11,
 o 38 (.p (.bin .sub (t 37) (.const (.int .i64 1)))),
 o 39 (.p (.indexAddr 1 (t 36) (t 38))),
 o 40 (.p (.load1 (t 39))),
 mv 41 0,
 o 42 (.p (.nilCheck (t 41))),
 o 43 (.p (.fieldAddr 2 (t 42))),
 o 44 (.p (.load1 (t 43))),
 mv 45 11,
 o 46 (.p (.bin .sub (t 45) (.const (.int .i64 1)))),
 o 47 (.p (.slice 1 (t 44) none (some (t 46)))),
 mv 10 40,
 o 48 (.p (.nilCheck (t 32))),
 o 49 (.p (.fieldAddr 2 (t 48))),
 p (.e (.store 1 (t 49) (t 47)))])
 (.region 0 [0, 9, 10] [
 mv 50 0,
 o 51 (.p (.nilCheck (t 50))),
 o 52 (.p (.fieldAddr 1 (t 51))),
 o 53 (.p (.load1 (t 52))),
 mv 54 10,
 o 55 (.p (.loadN 9 (t 9))),
 o 56 (.p (.indexAddr 9 (t 53) (t 54))),
 p (.e (.store 9 (t 56) (t 55)))]))
 (.region 1 [0, 9, 10] [
 mv 57 0,
 mv 58 0,
 o 59 (.p (.nilCheck (t 58))),
 o 60 (.p (.fieldAddr 1 (t 59))),
 o 61 (.p (.load1 (t 60))),
 o 62 (.p (.loadN 9 (t 9))),
 o 63 (.a 0 (.buildSlice 9 1 [.int .i64 0, .int .i64 0, .int .i64 0, .int .i64 0, .int .i64 0, .int .i64 0, .bool false, .bool false, .bool false] [(0, 9, t 62)])),
 o 64 (.e (.append 9 56 (t 61) (t 63))),
 o 65 (.p (.nilCheck (t 57))),
 o 66 (.p (.fieldAddr 1 (t 65))),
 p (.e (.store 1 (t 66) (t 64)))]))))
 c_Mesh_Make_r0))))⟩

/-- (*isohyet/mesh.Mesh).Link -/
@[reducible] def n_Mesh_Link : Nat := 67
def c_Mesh_Link : CFunc := ⟨false, 52, [],
 (.seq
 (.region 0 [0, 1, 2, 3, 4, 5] [
 mv 12 0,
 o 13 (.p (.nilCheck (t 12))),
 o 14 (.p (.fieldAddr 1 (t 13))),
 o 15 (.p (.load1 (t 14))),
 mv 16 1,
 mv 17 2,
 mv 18 0,
 o 19 (.p (.nilCheck (t 18))),
 o 20 (.p (.fieldAddr 1 (t 19))),
 o 21 (.p (.load1 (t 20))),
 mv 22 3,
 mv 23 4,
 mv 24 3,
 mv 25 1,
 o 26 (.p (.indexAddr 9 (t 15) (t 16))),
 o 27 (.p (.fieldAddr 3 (t 26))),
 o 28 (.p (.indexAddrA 3 1 (t 27) (t 17))),
 p (.e (.store 1 (t 28) (t 24))),
 o 29 (.p (.indexAddr 9 (t 21) (t 22))),
 o 30 (.p (.fieldAddr 3 (t 29))),
 o 31 (.p (.indexAddrA 3 1 (t 30) (t 23))),
 p (.e (.store 1 (t 31) (t 25)))])
 (.region 0 [] [
 mv 32 0,
 o 33 (.p (.nilCheck (t 32))),
 o 34 (.p (.fieldAddr 1 (t 33))),
 o 35 (.p (.load1 (t 34))),
 mv 36 1,
 mv 37 2,
 mv 38 0,
 o 39 (.p (.nilCheck (t 38))),
 o 40 (.p (.fieldAddr 1 (t 39))),
 o 41 (.p (.load1 (t 40))),
 mv 42 3,
 mv 43 4,
 mv 44 5,
 mv 45 5,
 o 46 (.p (.indexAddr 9 (t 35) (t 36))),
 o 47 (.p (.fieldAddr 6 (t 46))),
 o 48 (.p (.indexAddrA 3 1 (t 47) (t 37))),
 p (.e (.store 1 (t 48) (t 44))),
 o 49 (.p (.indexAddr 9 (t 41) (t 42))),
 o 50 (.p (.fieldAddr 6 (t 49))),
 o 51 (.p (.indexAddrA 3 1 (t 50) (t 43))),
 p (.e (.store 1 (t 51) (t 45)))]))⟩

/-- isohyet/walk.Find -/
@[reducible] def n_walk_Find : Nat := 68
def c_walk_Find_lp0 : CCode :=
 (.seq
 (.region 0 [0, 3, 5, 8, 10, 11, 12, 39, 40, 41] [
 o 41 (.p (.bin .lss (t 40) (.const (.int .i64 3))))])
 (.seq
 (.cond (t 41)
 .skip
 (.exit 2))
 (.seq
 (.block 3
 (.seq
 (.region 0 [0, 3, 5, 8, 10, 11, 12, 13, 14, 39, 40] [
 mv 42 40,
 o 43 (.p (.index 3 1 false (t 39) (t 40))),
 mv 13 42,
 mv 14 43])
 (.seq
 (.seq
 (.region 0 [0, 3, 5, 8, 10, 11, 12, 14, 39, 40, 49] [
 mv 44 0,
 o 45 (.p (.loadN 9 (t 12))),
 mv 46 13,
 o 47 (.p (.loadN 2 (t 5))),
 o 48 (.e (.call (.func 43) [t 44, t 45, t 46, t 47])),
 o 49 (.p (.un .not (t 48)))])
 (.cond (t 49)
 (.exit 3)
 .skip))
 (.seq
 (.seq
 (.region 0 [0, 3, 5, 8, 11, 14, 53] [
 mv 50 0,
 mv 51 14,
 o 52 (.e (.call (.func 42) [t 50, t 51])),
 o 53 (.p (.un .not (t 52)))])
 (.cond (t 53)
 (.seq
 (.region 0 [8, 9] [
 mv 54 14,
 o 55 (.p (.build [.int .i64 0, .int .i64 0, .int .i64 0, .int .i64 0] [(0, 1, .const (.int .i64 3)), (1, 1, t 54)])),
 mv 56 11,
 p (.e (.store 4 (t 8) (t 55))),
 mv 9 56])
 .ret)
 .skip))
 (.seq
 (.region 0 [0, 3, 5, 8, 10, 11] [
 mv 57 14,
 mv 10 57])
 (.exit 1))))))
 (.region 0 [0, 3, 5, 8, 10, 11, 12, 39, 40] [
 o 58 (.p (.bin .add (t 40) (.const (.int .i64 1)))),
 mv 40 58]))))
def c_walk_Find_lp1 : CCode :=
 (.seq
 (.seq
 (.region 0 [0, 3, 5, 8, 10, 11, 28] [
 mv 22 10,
 o 23 (.p (.bin .geq (t 22) (.const (.int .i64 0)))),
 mv 24 23,
 ⟨some 25, .p (.move (t 11)), (some (24, true)), none⟩,
 ⟨some 26, .p (.move (t 3)), (some (24, true)), none⟩,
 ⟨some 27, .p (.bin .lss (t 25) (t 26)), (some (24, true)), none⟩,
 o 28 (.p (.pick (t 24) (t 27) (.const (.bool false))))])
 (.cond (t 28)
 .skip
 (.exit 0)))
 (.block 1
 (.seq
 (.region 0 [0, 3, 5, 8, 10, 11] [
 mv 29 11,
 o 30 (.p (.bin .add (t 29) (.const (.int .i64 1)))),
 mv 11 30])
 (.seq
 (.region 1 [0, 3, 5, 8, 10, 11, 12] [
 mv 31 0,
 o 32 (.p (.nilCheck (t 31))),
 o 33 (.p (.fieldAddr 1 (t 32))),
 o 34 (.p (.load1 (t 33))),
 mv 35 10,
 o 36 (.p (.indexAddr 9 (t 34) (t 35))),
 o 37 (.p (.loadN 9 (t 36))),
 o 12 (.a 0 (.alloc [.int .i64 0, .int .i64 0, .int .i64 0, .int .i64 0, .int .i64 0, .int .i64 0, .bool false, .bool false, .bool false])),
 p (.e (.store 9 (t 12) (t 37)))])
 (.seq
 (.seq
 (.region 0 [0, 3, 5, 8, 10, 11, 12, 39, 40] [
 o 38 (.p (.fieldAddr 3 (t 12))),
 o 39 (.p (.loadN 3 (t 38))),
 o 40 (.p (.move (.const (.int .i64 0))))])
 (.block 2
 (.loop [0, 3, 5, 8, 10, 11, 12, 39, 40] c_walk_Find_lp0)))
 (.seq
 (.region 0 [8, 9] [
 mv 59 0,
 mv 60 10,
 o 61 (.p (.loadN 2 (t 5))),
 o 62 (.e (.call (.func 41) [t 59, t 60, t 61])),
 mv 63 11,
 p (.e (.store 4 (t 8) (t 62))),
 mv 9 63])
 .ret))))))
def c_walk_Find_r0 : CCode :=
 (.seq
 (.region 0 [0, 3, 5, 8, 10, 11] [
 o 11 (.p (.move (.const (.int .i64 0))))])
 (.seq
 .skip
 (.seq
 (.block 0
 (.loop [0, 3, 5, 8, 10, 11] c_walk_Find_lp1))
 (.seq
 (.region 0 [8, 9] [
 mv 64 0,
 o 65 (.p (.loadN 2 (t 5))),
 o 66 (.e (.call (.func 19) [t 64, t 65])),
 mv 67 11,
 p (.e (.store 4 (t 8) (t 66))),
 mv 9 67])
 .ret))))
def c_walk_Find : CFunc := ⟨true, 68, [.cellN 8 4, .tmp 9],
 (.seq
 (.region 2 [0, 2, 3, 5, 8] [
 o 5 (.a 0 (.box (t 1))),
 o 8 (.a 1 (.alloc [.int .i64 0, .int .i64 0, .int .i64 0, .int .i64 0])),
 o 9 (.p (.move (.const (.int .i64 0))))])
 (.scope
 (.seq
 (.region 0 [0, 3, 5, 8, 10] [
 mv 15 2,
 mv 10 15])
 (.seq
 (.seq
 (.region 0 [0, 3, 5, 8, 10, 19] [
 mv 16 0,
 mv 17 10,
 o 18 (.e (.call (.func 42) [t 16, t 17])),
 o 19 (.p (.un .not (t 18)))])
 (.cond (t 19)
 (.region 0 [0, 3, 5, 8, 10] [
 mv 20 0,
 o 21 (.e (.call (.func 99) [t 20])),
 mv 10 21])
 .skip))
 c_walk_Find_r0))))⟩

/-- isohyet/grow.parted -/
@[reducible] def n_grow_parted : Nat := 69
def c_grow_parted : CFunc := ⟨true, 38, [.cellN 4 2, .tmp 5],
 (.seq
 (.region 2 [0, 3, 4] [
 o 3 (.a 0 (.box (t 1))),
 o 4 (.a 1 (.alloc [.int .i64 0, .int .i64 0])),
 o 5 (.p (.move (.const (.bool false))))])
 (.seq
 (.seq
 (.region 0 [0, 3, 4, 11] [
 o 9 (.p (.fieldAddr 0 (t 3))),
 o 10 (.p (.load1 (t 9))),
 o 11 (.p (.bin .neq (t 10) (.const (.int .i64 1))))])
 (.cond (t 11)
 (.seq
 (.region 0 [4, 5] [
 o 12 (.p (.build [.int .i64 0, .int .i64 0] [])),
 p (.e (.store 2 (t 4) (t 12))),
 o 5 (.p (.move (.const (.bool false))))])
 .ret)
 .skip))
 (.seq
 (.region 0 [0, 3, 4, 6, 7] [
 mv 14 0,
 o 15 (.p (.fieldAddr 2 (t 3))),
 o 16 (.p (.load1 (t 15))),
 o 17 (.p (.fieldAddr 3 (t 3))),
 o 18 (.p (.load1 (t 17))),
 o 19 (.e (.call (.func 76) [t 14, t 16, t 18])),
 mv 13 19,
 o 20 (.p (.extract (t 13) 0)),
 o 21 (.p (.extract (t 13) 1)),
 o 22 (.p (.extract (t 13) 2)),
 mv 6 20,
 mv 7 21,
 mv 8 22])
 (.seq
 (.region 0 [4, 5] [
 o 23 (.p (.fieldAddr 2 (t 3))),
 o 24 (.p (.load1 (t 23))),
 o 25 (.p (.fieldAddr 3 (t 3))),
 o 26 (.p (.load1 (t 25))),
 o 27 (.p (.build [.int .i64 0, .int .i64 0] [(0, 1, t 24), (1, 1, t 26)])),
 mv 28 0,
 o 29 (.p (.nilCheck (t 28))),
 o 30 (.p (.fieldAddr 1 (t 29))),
 l 31 0 1 (.p (.load1 (t 30))),
 mv 32 6,
 mv 33 7,
 o 34 (.p (.indexAddr 9 (t 31) (t 32))),
 o 35 (.p (.fieldAddr 6 (t 34))),
 o 36 (.p (.indexAddrA 3 1 (t 35) (t 33))),
 l 37 0 1 (.p (.load1 (t 36))),
 p (.e (.store 2 (t 4) (t 27))),
 mv 5 37])
 .ret))))⟩

/-- isohyet/cavity.Dig -/
@[reducible] def n_cavity_Dig : Nat := 70
def c_cavity_Dig_lp0 : CCode :=
 (.seq
 (.region 0 [0, 4, 6, 7, 8, 46, 47, 48, 49] [
 o 49 (.p (.bin .lss (t 48) (t 47)))])
 (.seq
 (.cond (t 49)
 .skip
 (.exit 0))
 (.seq
 (.block 1
 (.seq
 (.region 0 [0, 4, 6, 7, 8, 10, 46, 47, 48] [
 o 50 (.p (.indexAddr 1 (t 46) (t 48))),
 o 51 (.p (.load1 (t 50))),
 mv 10 51])
 (.region 0 [0, 4, 6, 7, 8, 46, 47, 48] [
 mv 52 8,
 mv 53 10,
 p (.e (.mapUpdate .int (t 52) (t 53) (.const (.bool true))))])))
 (.region 0 [0, 4, 6, 7, 8, 46, 47, 48] [
 o 54 (.p (.bin .add (t 48) (.const (.int .i64 1)))),
 mv 48 54]))))
def c_cavity_Dig_lp1 : CCode :=
 (.seq
 (.region 0 [0, 4, 6, 7, 8, 11, 12, 74, 75, 76] [
 o 76 (.p (.bin .lss (t 75) (.const (.int .i64 3))))])
 (.seq
 (.cond (t 76)
 .skip
 (.exit 4))
 (.seq
 (.block 5
 (.seq
 (.region 0 [0, 4, 6, 7, 8, 11, 12, 13, 14, 74, 75] [
 mv 77 75,
 o 78 (.p (.index 3 1 false (t 74) (t 75))),
 mv 13 77,
 mv 14 78])
 (.seq
 (.region 0 [0, 4, 6, 7, 8, 11, 12, 14, 74, 75, 95] [
 mv 79 8,
 mv 80 14,
 o 81 (.p (.lookup .int (.bool false) false (t 79) (t 80))),
 o 82 (.p (.un .not (t 81))),
 mv 83 82,
 ⟨some 84, .p (.move (t 13)), (some (83, true)), none⟩,
 ⟨some 85, .p (.fieldAddr 6 (t 12)), (some (83, true)), none⟩,
 ⟨some 86, .p (.indexAddrA 3 1 (t 85) (t 84)), (some (83, true)), none⟩,
 ⟨some 87, .p (.load1 (t 86)), (some (83, true)), none⟩,
 ⟨some 88, .p (.un .not (t 87)), (some (83, true)), none⟩,
 o 89 (.p (.pick (t 83) (t 88) (.const (.bool false)))),
 mv 90 89,
 ⟨some 91, .p (.move (t 0)), (some (90, true)), none⟩,
 ⟨some 92, .p (.move (t 14)), (some (90, true)), none⟩,
 ⟨some 93, .p (.loadN 2 (t 4)), (some (90, true)), none⟩,
 ⟨some 94, .e (.call (.func 101) [t 91, t 92, t 93]), (some (90, true)), none⟩,
 o 95 (.p (.pick (t 90) (t 94) (.const (.bool false))))])
 (.cond (t 95)
 (.seq
 (.region 0 [0, 4, 6, 7, 8, 11, 12, 14, 74, 75] [
 mv 96 8,
 mv 97 14,
 p (.e (.mapUpdate .int (t 96) (t 97) (.const (.bool true))))])
 (.region 1 [0, 4, 6, 7, 8, 11, 12, 74, 75] [
 o 98 (.p (.fieldAddr 0 (t 7))),
 o 99 (.p (.load1 (t 98))),
 mv 100 14,
 o 101 (.a 0 (.buildSlice 1 1 [.int .i64 0] [(0, 1, t 100)])),
 o 102 (.e (.append 1 8 (t 99) (t 101))),
 o 103 (.p (.fieldAddr 0 (t 7))),
 p (.e (.store 1 (t 103) (t 102)))]))
 .skip))))
 (.region 0 [0, 4, 6, 7, 8, 11, 12, 74, 75] [
 o 104 (.p (.bin .add (t 75) (.const (.int .i64 1)))),
 mv 75 104]))))
def c_cavity_Dig_lp2 : CCode :=
 (.seq
 (.seq
 (.region 0 [0, 4, 6, 7, 8, 11, 59] [
 mv 55 11,
 o 56 (.p (.fieldAddr 0 (t 7))),
 o 57 (.p (.load1 (t 56))),
 o 58 (.p (.len (t 57))),
 o 59 (.p (.bin .lss (t 55) (t 58)))])
 (.cond (t 59)
 .skip
 (.exit 2)))
 (.seq
 (.block 3
 (.seq
 (.region 1 [0, 4, 6, 7, 8, 11, 12] [
 mv 62 0,
 o 63 (.p (.nilCheck (t 62))),
 o 64 (.p (.fieldAddr 1 (t 63))),
 o 65 (.p (.load1 (t 64))),
 o 66 (.p (.fieldAddr 0 (t 7))),
 o 67 (.p (.load1 (t 66))),
 mv 68 11,
 o 69 (.p (.indexAddr 1 (t 67) (t 68))),
 o 70 (.p (.load1 (t 69))),
 o 71 (.p (.indexAddr 9 (t 65) (t 70))),
 o 72 (.p (.loadN 9 (t 71))),
 o 12 (.a 0 (.alloc [.int .i64 0, .int .i64 0, .int .i64 0, .int .i64 0, .int .i64 0, .int .i64 0, .bool false, .bool false, .bool false])),
 p (.e (.store 9 (t 12) (t 72)))])
 (.seq
 (.region 0 [0, 4, 6, 7, 8, 11, 12, 74, 75] [
 o 73 (.p (.fieldAddr 3 (t 12))),
 o 74 (.p (.loadN 3 (t 73))),
 o 75 (.p (.move (.const (.int .i64 0))))])
 (.block 4
 (.loop [0, 4, 6, 7, 8, 11, 12, 74, 75] c_cavity_Dig_lp1)))))
 (.region 0 [0, 4, 6, 7, 8, 11] [
 mv 60 11,
 o 61 (.p (.bin .add (t 60) (.const (.int .i64 1)))),
 mv 11 61])))
def c_cavity_Dig_lp3 : CCode :=
 (.seq
 (.region 0 [0, 4, 6, 7, 8, 15, 16, 18, 19, 115, 116, 117, 129, 130, 131] [
 o 131 (.p (.bin .lss (t 130) (.const (.int .i64 3))))])
 (.seq
 (.cond (t 131)
 .skip
 (.exit 8))
 (.seq
 (.block 9
 (.seq
 (.region 0 [0, 4, 6, 7, 8, 15, 16, 18, 19, 20, 21, 115, 116, 117, 129, 130] [
 mv 132 130,
 o 133 (.p (.index 3 1 false (t 129) (t 130))),
 mv 20 132,
 mv 21 133])
 (.seq
 (.seq
 (.region 0 [0, 4, 6, 7, 8, 15, 16, 18, 19, 20, 21, 115, 116, 117, 129, 130, 136] [
 mv 134 8,
 mv 135 21,
 o 136 (.p (.lookup .int (.bool false) false (t 134) (t 135)))])
 (.cond (t 136)
 (.exit 9)
 .skip))
 (.seq
 (.region 1 [0, 4, 6, 7, 8, 15, 16, 18, 19, 21, 22, 115, 116, 117, 129, 130] [
 mv 137 20,
 o 138 (.p (.bin .add (t 137) (.const (.int .i64 1)))),
 o 139 (.p (.bin .rem (t 138) (.const (.int .i64 3)))),
 o 140 (.p (.fieldAddr 0 (t 19))),
 o 141 (.p (.indexAddrA 3 1 (t 140) (t 139))),
 o 142 (.p (.load1 (t 141))),
 mv 143 20,
 o 144 (.p (.bin .add (t 143) (.const (.int .i64 2)))),
 o 145 (.p (.bin .rem (t 144) (.const (.int .i64 3)))),
 o 146 (.p (.fieldAddr 0 (t 19))),
 o 147 (.p (.indexAddrA 3 1 (t 146) (t 145))),
 o 148 (.p (.load1 (t 147))),
 mv 149 21,
 mv 150 20,
 o 151 (.p (.fieldAddr 6 (t 19))),
 o 152 (.p (.indexAddrA 3 1 (t 151) (t 150))),
 o 153 (.p (.load1 (t 152))),
 o 154 (.p (.build [.int .i64 0, .int .i64 0, .int .i64 0, .int .i64 0, .bool false] [(0, 1, t 142), (1, 1, t 148), (2, 1, t 149), (4, 1, t 153)])),
 o 22 (.a 0 (.alloc [.int .i64 0, .int .i64 0, .int .i64 0, .int .i64 0, .bool false])),
 p (.e (.store 5 (t 22) (t 154)))])
 (.seq
 (.region 0 [0, 4, 6, 7, 8, 15, 16, 18, 19, 21, 22, 115, 116, 117, 129, 130] [
 mv 155 0,
 o 156 (.p (.nilCheck (t 155))),
 o 157 (.p (.fieldAddr 1 (t 156))),
 o 158 (.p (.load1 (t 157))),
 mv 159 21,
 o 160 (.p (.indexAddr 9 (t 158) (t 159))),
 o 161 (.p (.fieldAddr 3 (t 160))),
 o 162 (.p (.sliceArr 3 1 (t 161) none none)),
 mv 163 18,
 o 164 (.e (.call (.func 103) [t 162, t 163])),
 o 165 (.p (.fieldAddr 3 (t 22))),
 p (.e (.store 1 (t 165) (t 164)))])
 (.seq
 (.region 0 [0, 4, 6, 7, 8, 15, 16, 18, 19, 21, 22, 115, 116, 117, 129, 130] [
 mv 166 15,
 o 167 (.p (.fieldAddr 0 (t 22))),
 o 168 (.p (.load1 (t 167))),
 o 169 (.p (.loadN 5 (t 22))),
 p (.e (.mapUpdate .int (t 166) (t 168) (t 169)))])
 (.seq
 (.region 0 [0, 4, 6, 7, 8, 15, 16, 18, 19, 21, 22, 115, 116, 117, 129, 130] [
 mv 170 16,
 o 171 (.p (.fieldAddr 0 (t 22))),
 o 172 (.p (.load1 (t 171))),
 o 173 (.p (.min [t 170, t 172])),
 mv 16 173])
 (.region 0 [0, 4, 6, 7, 8, 15, 16, 18, 19, 115, 116, 117, 129, 130] [
 o 174 (.p (.fieldAddr 2 (t 7))),
 o 175 (.p (.load1 (t 174))),
 mv 176 175,
 ⟨some 177, .p (.fieldAddr 4 (t 22)), (some (176, false)), none⟩,
 ⟨some 178, .p (.load1 (t 177)), (some (176, false)), none⟩,
 ⟨some 179, .p (.move (t 178)), (some (176, false)), none⟩,
 ⟨some 180, .p (.move (t 0)), (some (179, true)), none⟩,
 ⟨some 181, .p (.move (t 21)), (some (179, true)), none⟩,
 ⟨some 182, .p (.loadN 2 (t 4)), (some (179, true)), none⟩,
 ⟨some 183, .e (.call (.func 101) [t 180, t 181, t 182]), (some (179, true)), none⟩,
 ⟨some 184, .p (.pick (t 179) (t 183) (.const (.bool false))), (some (176, false)), none⟩,
 o 185 (.p (.pick (t 176) (.const (.bool true)) (t 184))),
 o 186 (.p (.fieldAddr 2 (t 7))),
 p (.e (.store 1 (t 186) (t 185)))]))))))))
 (.region 0 [0, 4, 6, 7, 8, 15, 16, 18, 19, 115, 116, 117, 129, 130] [
 o 187 (.p (.bin .add (t 130) (.const (.int .i64 1)))),
 mv 130 187]))))
def c_cavity_Dig_lp4 : CCode :=
 (.seq
 (.region 0 [0, 4, 6, 7, 8, 15, 16, 115, 116, 117, 118] [
 o 118 (.p (.bin .lss (t 117) (t 116)))])
 (.seq
 (.cond (t 118)
 .skip
 (.exit 6))
 (.seq
 (.block 7
 (.seq
 (.region 0 [0, 4, 6, 7, 8, 15, 16, 18, 115, 116, 117] [
 o 119 (.p (.indexAddr 1 (t 115) (t 117))),
 o 120 (.p (.load1 (t 119))),
 mv 18 120])
 (.seq
 (.region 1 [0, 4, 6, 7, 8, 15, 16, 18, 19, 115, 116, 117] [
 mv 121 0,
 o 122 (.p (.nilCheck (t 121))),
 o 123 (.p (.fieldAddr 1 (t 122))),
 o 124 (.p (.load1 (t 123))),
 mv 125 18,
 o 126 (.p (.indexAddr 9 (t 124) (t 125))),
 o 127 (.p (.loadN 9 (t 126))),
 o 19 (.a 0 (.alloc [.int .i64 0, .int .i64 0, .int .i64 0, .int .i64 0, .int .i64 0, .int .i64 0, .bool false, .bool false, .bool false])),
 p (.e (.store 9 (t 19) (t 127)))])
 (.seq
 (.region 0 [0, 4, 6, 7, 8, 15, 16, 18, 19, 115, 116, 117, 129, 130] [
 o 128 (.p (.fieldAddr 3 (t 19))),
 o 129 (.p (.loadN 3 (t 128))),
 o 130 (.p (.move (.const (.int .i64 0))))])
 (.block 8
 (.loop [0, 4, 6, 7, 8, 15, 16, 18, 19, 115, 116, 117, 129, 130] c_cavity_Dig_lp3))))))
 (.region 0 [0, 4, 6, 7, 8, 15, 16, 115, 116, 117] [
 o 188 (.p (.bin .add (t 117) (.const (.int .i64 1)))),
 mv 117 188]))))
def c_cavity_Dig_lp5 : CCode :=
 (.seq
 (.seq
 (.region 0 [6, 7, 15, 23, 195] [
 o 190 (.p (.fieldAddr 1 (t 7))),
 o 191 (.p (.load1 (t 190))),
 o 192 (.p (.len (t 191))),
 mv 193 15,
 o 194 (.p (.lenMap (t 193))),
 o 195 (.p (.bin .lss (t 192) (t 194)))])
 (.cond (t 195)
 .skip
 (.exit 10)))
 (.seq
 (.block 11
 (.region 1 [6, 7, 15, 23] [
 o 200 (.p (.fieldAddr 1 (t 7))),
 o 201 (.p (.load1 (t 200))),
 mv 202 15,
 mv 203 23,
 o 204 (.p (.lookup .int (.agg ⟨[.int .i64 0, .int .i64 0, .int .i64 0, .int .i64 0, .bool false]⟩) false (t 202) (t 203))),
 o 205 (.a 0 (.buildSlice 5 1 [.int .i64 0, .int .i64 0, .int .i64 0, .int .i64 0, .bool false] [(0, 5, t 204)])),
 o 206 (.e (.append 5 40 (t 201) (t 205))),
 o 207 (.p (.fieldAddr 1 (t 7))),
 p (.e (.store 1 (t 207) (t 206)))]))
 (.region 0 [6, 7, 15, 23] [
 mv 196 15,
 mv 197 23,
 o 198 (.p (.lookup .int (.agg ⟨[.int .i64 0, .int .i64 0, .int .i64 0, .int .i64 0, .bool false]⟩) false (t 196) (t 197))),
 o 199 (.p (.field 1 1 false (t 198))),
 mv 23 199])))
def c_cavity_Dig_r0 : CCode :=
 (.seq
 (.region 1 [0, 4, 6, 7, 8] [
 o 44 (.a 0 (.makeMap)),
 mv 8 44])
 (.seq
 (.seq
 (.region 0 [0, 4, 6, 7, 8, 46, 47, 48] [
 o 45 (.p (.fieldAddr 0 (t 7))),
 o 46 (.p (.load1 (t 45))),
 o 47 (.p (.len (t 46))),
 o 48 (.p (.move (.const (.int .i64 0))))])
 (.block 0
 (.loop [0, 4, 6, 7, 8, 46, 47, 48] c_cavity_Dig_lp0)))
 (.seq
 (.seq
 (.region 0 [0, 4, 6, 7, 8, 11] [
 o 11 (.p (.move (.const (.int .i64 0))))])
 (.block 2
 (.loop [0, 4, 6, 7, 8, 11] c_cavity_Dig_lp2)))
 (.seq
 (.region 0 [0, 4, 6, 7, 8] [
 o 105 (.p (.fieldAddr 0 (t 7))),
 o 106 (.p (.load1 (t 105))),
 o 107 (.e (.call (.func 102) [t 106]))])
 (.seq
 (.region 1 [0, 4, 6, 7, 8, 15] [
 o 108 (.a 0 (.makeMap)),
 mv 15 108])
 (.seq
 (.region 0 [0, 4, 6, 7, 8, 15, 16] [
 mv 109 0,
 o 110 (.p (.nilCheck (t 109))),
 o 111 (.p (.fieldAddr 0 (t 110))),
 o 112 (.p (.load1 (t 111))),
 o 113 (.p (.len (t 112))),
 mv 16 113])
 (.seq
 (.seq
 (.region 0 [0, 4, 6, 7, 8, 15, 16, 115, 116, 117] [
 o 114 (.p (.fieldAddr 0 (t 7))),
 o 115 (.p (.load1 (t 114))),
 o 116 (.p (.len (t 115))),
 o 117 (.p (.move (.const (.int .i64 0))))])
 (.block 6
 (.loop [0, 4, 6, 7, 8, 15, 16, 115, 116, 117] c_cavity_Dig_lp4)))
 (.seq
 (.seq
 (.region 0 [6, 7, 15, 23] [
 mv 189 16,
 mv 23 189])
 (.block 10
 (.loop [6, 7, 15, 23] c_cavity_Dig_lp5)))
 (.seq
 (.region 0 [6] [
 o 208 (.p (.loadN 3 (t 7))),
 p (.e (.store 3 (t 6) (t 208)))])
 .ret)))))))))
def c_cavity_Dig : CFunc := ⟨true, 209, [.cellN 6 3],
 (.seq
 (.region 3 [0, 4, 5, 6] [
 o 4 (.a 0 (.box (t 1))),
 o 5 (.a 1 (.box (t 2))),
 o 6 (.a 2 (.alloc [.slice none 0 0, .slice none 0 0, .bool false]))])
 (.seq
 (.region 2 [0, 4, 5, 6, 7] [
 o 24 (.p (.fieldAddr 1 (t 5))),
 o 25 (.p (.load1 (t 24))),
 o 26 (.a 0 (.buildSlice 1 1 [.int .i64 0] [(0, 1, t 25)])),
 o 27 (.p (.build [.slice none 0 0, .slice none 0 0, .bool false] [(0, 1, t 26)])),
 o 7 (.a 1 (.alloc [.slice none 0 0, .slice none 0 0, .bool false])),
 p (.e (.store 3 (t 7) (t 27)))])
 (.seq
 (.seq
 (.region 0 [0, 4, 5, 6, 7, 30] [
 o 28 (.p (.fieldAddr 0 (t 5))),
 o 29 (.p (.load1 (t 28))),
 o 30 (.p (.bin .eql (t 29) (.const (.int .i64 1))))])
 (.cond (t 30)
 (.region 1 [0, 4, 6, 7] [
 o 31 (.p (.fieldAddr 0 (t 7))),
 l 32 0 1 (.p (.load1 (t 31))),
 mv 33 0,
 o 34 (.p (.fieldAddr 1 (t 5))),
 o 35 (.p (.load1 (t 34))),
 o 36 (.p (.fieldAddr 2 (t 5))),
 o 37 (.p (.load1 (t 36))),
 o 38 (.p (.fieldAddr 3 (t 5))),
 o 39 (.p (.load1 (t 38))),
 o 40 (.e (.call (.func 100) [t 33, t 35, t 37, t 39])),
 o 41 (.a 0 (.buildSlice 1 1 [.int .i64 0] [(0, 1, t 40)])),
 o 42 (.e (.append 1 8 (t 32) (t 41))),
 o 43 (.p (.fieldAddr 0 (t 7))),
 p (.e (.store 1 (t 43) (t 42)))])
 .skip))
 c_cavity_Dig_r0)))⟩

/-- (*isohyet/mesh.Mesh).Drop -/
@[reducible] def n_Mesh_Drop : Nat := 71
def c_Mesh_Drop : CFunc := ⟨false, 23, [],
 (.seq
 (.region 0 [0, 1] [
 mv 4 0,
 o 5 (.p (.nilCheck (t 4))),
 o 6 (.p (.fieldAddr 1 (t 5))),
 o 7 (.p (.load1 (t 6))),
 mv 8 1,
 o 9 (.p (.build [.int .i64 0, .int .i64 0, .int .i64 0] [(0, 1, .const (.int .i64 (-2))), (1, 1, .const (.int .i64 (-2))), (2, 1, .const (.int .i64 (-2)))])),
 o 10 (.p (.build [.int .i64 0, .int .i64 0, .int .i64 0] [(0, 1, .const (.int .i64 (-1))), (1, 1, .const (.int .i64 (-1))), (2, 1, .const (.int .i64 (-1)))])),
 o 11 (.p (.build [.int .i64 0, .int .i64 0, .int .i64 0, .int .i64 0, .int .i64 0, .int .i64 0, .bool false, .bool false, .bool false] [(0, 3, t 9), (3, 3, t 10)])),
 o 12 (.p (.indexAddr 9 (t 7) (t 8))),
 p (.e (.store 9 (t 12) (t 11)))])
 (.region 1 [] [
 mv 13 0,
 mv 14 0,
 o 15 (.p (.nilCheck (t 14))),
 o 16 (.p (.fieldAddr 2 (t 15))),
 o 17 (.p (.load1 (t 16))),
 mv 18 1,
 o 19 (.a 0 (.buildSlice 1 1 [.int .i64 0] [(0, 1, t 18)])),
 o 20 (.e (.append 1 8 (t 17) (t 19))),
 o 21 (.p (.nilCheck (t 13))),
 o 22 (.p (.fieldAddr 2 (t 21))),
 p (.e (.store 1 (t 22) (t 20)))]))⟩

/-- (*isohyet/mesh.Mesh).Around -/
@[reducible] def n_Mesh_Around : Nat := 72
def c_Mesh_Around : CFunc := ⟨false, 6, [.tmp 4],
 (.seq
 (.region 2 [2, 3] [
 o 2 (.a 0 (.box (t 0))),
 o 3 (.a 1 (.box (t 1))),
 o 4 (.p (.move (.const (.nilFunc))))])
 (.seq
 (.region 0 [4] [
 o 5 (.p (.makeFunc 104 [t 2, t 3])),
 mv 4 5])
 .ret))⟩

/-- (*isohyet/mesh.Mesh).Find -/
@[reducible] def n_Mesh_Find : Nat := 76
def c_Mesh_Find_lp0 : CCode :=
 (.seq
 (.region 0 [3, 4, 5, 6, 7, 8, 10, 28, 29] [
 o 29 (.p (.bin .lss (t 28) (.const (.int .i64 3))))])
 (.seq
 (.cond (t 29)
 .skip
 (.exit 2))
 (.seq
 (.block 3
 (.seq
 (.region 0 [3, 4, 5, 6, 7, 8, 10, 11, 28] [
 mv 30 28,
 mv 11 30])
 (.seq
 (.region 1 [3, 4, 5, 6, 7, 8, 10, 11, 12, 28] [
 o 31 (.p (.load1 (t 3))),
 o 32 (.p (.nilCheck (t 31))),
 o 33 (.p (.fieldAddr 1 (t 32))),
 o 34 (.p (.load1 (t 33))),
 mv 35 10,
 o 36 (.p (.indexAddr 9 (t 34) (t 35))),
 o 37 (.p (.fieldAddr 0 (t 36))),
 o 38 (.p (.loadN 3 (t 37))),
 o 12 (.a 0 (.alloc [.int .i64 0, .int .i64 0, .int .i64 0])),
 p (.e (.store 3 (t 12) (t 38)))])
 (.seq
 (.region 0 [3, 4, 5, 6, 7, 8, 10, 11, 28, 54] [
 mv 39 11,
 o 40 (.p (.bin .add (t 39) (.const (.int .i64 1)))),
 o 41 (.p (.bin .rem (t 40) (.const (.int .i64 3)))),
 o 42 (.p (.indexAddrA 3 1 (t 12) (t 41))),
 o 43 (.p (.load1 (t 42))),
 o 44 (.p (.load1 (t 4))),
 o 45 (.p (.bin .eql (t 43) (t 44))),
 mv 46 45,
 ⟨some 47, .p (.move (t 11)), (some (46, true)), none⟩,
 ⟨some 48, .p (.bin .add (t 47) (.const (.int .i64 2))), (some (46, true)), none⟩,
 ⟨some 49, .p (.bin .rem (t 48) (.const (.int .i64 3))), (some (46, true)), none⟩,
 ⟨some 50, .p (.indexAddrA 3 1 (t 12) (t 49)), (some (46, true)), none⟩,
 ⟨some 51, .p (.load1 (t 50)), (some (46, true)), none⟩,
 ⟨some 52, .p (.load1 (t 5)), (some (46, true)), none⟩,
 ⟨some 53, .p (.bin .eql (t 51) (t 52)), (some (46, true)), none⟩,
 o 54 (.p (.pick (t 46) (t 53) (.const (.bool false))))])
 (.cond (t 54)
 (.seq
 (.region 0 [] [
 mv 55 10,
 mv 56 11,
 p (.e (.store 1 (t 6) (t 55))),
 p (.e (.store 1 (t 7) (t 56))),
 p (.e (.store 1 (t 8) (.const (.bool true))))])
 .ret)
 .skip)))))
 (.region 0 [3, 4, 5, 6, 7, 8, 10, 28] [
 o 57 (.p (.bin .add (t 28) (.const (.int .i64 1)))),
 mv 28 57]))))
def c_Mesh_Find_0a : CCode :=
 (.region 0 [3, 4, 5, 6, 7, 8, 10] [
 mv 10 26])
def c_Mesh_Find_0b : CCode :=
 (.block 1
 (.seq
 (.region 0 [3, 4, 5, 6, 7, 8, 10, 28] [
 o 28 (.p (.move (.const (.int .i64 0))))])
 (.block 2
 (.loop [3, 4, 5, 6, 7, 8, 10, 28] c_Mesh_Find_lp0))))
def c_Mesh_Find : CFunc := ⟨true, 58, [.cell1 6, .cell1 7, .cell1 8],
 (.seq
 (.region 6 [3, 4, 5, 6, 7, 8] [
 o 3 (.a 0 (.box (t 0))),
 o 4 (.a 1 (.box (t 1))),
 o 5 (.a 2 (.box (t 2))),
 o 6 (.a 3 (.alloc [.int .i64 0])),
 o 7 (.a 4 (.alloc [.int .i64 0])),
 o 8 (.a 5 (.alloc [.bool false]))])
 (.seq
 (.region 0 [3, 4, 5, 6, 7, 8, 9] [
 o 13 (.p (.load1 (t 4))),
 o 14 (.p (.load1 (t 5))),
 o 15 (.p (.max [t 13, t 14])),
 mv 9 15])
 (.seq
 (.seq
 (.region 0 [3, 4, 5, 6, 7, 8, 9, 22] [
 mv 16 9,
 o 17 (.p (.bin .lss (t 16) (.const (.int .i64 0)))),
 mv 18 17,
 ⟨some 19, .p (.load1 (t 4)), (some (18, false)), none⟩,
 ⟨some 20, .p (.load1 (t 5)), (some (18, false)), none⟩,
 ⟨some 21, .p (.bin .eql (t 19) (t 20)), (some (18, false)), none⟩,
 o 22 (.p (.pick (t 18) (.const (.bool true)) (t 21)))])
 (.cond (t 22)
 (.seq
 (.region 0 [6, 7, 8] [
 p (.e (.store 1 (t 6) (.const (.int .i64 (-1))))),
 p (.e (.store 1 (t 7) (.const (.int .i64 0)))),
 p (.e (.store 1 (t 8) (.const (.bool false))))])
 .ret)
 .skip))
 (.seq
 (.seq
 (.region 0 [3, 4, 5, 6, 7, 8, 25] [
 o 23 (.p (.load1 (t 3))),
 mv 24 9,
 o 25 (.e (.call (.func 72) [t 23, t 24]))])
 (.block 0
 (.rangeFunc (t 25) [26, 27] c_Mesh_Find_0a c_Mesh_Find_0b)))
 (.seq
 (.region 0 [6, 7, 8] [
 p (.e (.store 1 (t 6) (.const (.int .i64 (-1))))),
 p (.e (.store 1 (t 7) (.const (.int .i64 0)))),
 p (.e (.store 1 (t 8) (.const (.bool false))))])
 .ret)))))⟩

/-- (*isohyet/mesh.Mesh).All$1 -/
@[reducible] def n_Mesh_All_1 : Nat := 80
def c_Mesh_All_1_lp0 : CCode :=
 (.seq
 (.region 0 [0, 1, 8, 9, 10, 11] [
 o 11 (.p (.bin .lss (t 10) (t 9)))])
 (.seq
 (.cond (t 11)
 .skip
 (.exit 0))
 (.seq
 (.block 1
 (.seq
 (.region 1 [0, 1, 3, 4, 8, 9, 10] [
 mv 12 10,
 o 13 (.p (.indexAddr 9 (t 8) (t 10))),
 o 14 (.p (.loadN 9 (t 13))),
 o 4 (.a 0 (.alloc [.int .i64 0, .int .i64 0, .int .i64 0, .int .i64 0, .int .i64 0, .int .i64 0, .bool false, .bool false, .bool false])),
 mv 3 12,
 p (.e (.store 9 (t 4) (t 14)))])
 (.seq
 (.region 0 [0, 1, 8, 9, 10, 24] [
 o 15 (.p (.load1 (t 1))),
 mv 16 3,
 o 17 (.e (.call (.func 42) [t 15, t 16])),
 mv 18 17,
 ⟨some 19, .p (.move (t 0)), (some (18, true)), none⟩,
 ⟨some 20, .p (.move (t 3)), (some (18, true)), none⟩,
 ⟨some 21, .p (.loadN 9 (t 4)), (some (18, true)), none⟩,
 ⟨some 22, .e (.call (t 19) [t 20, t 21]), (some (18, true)), none⟩,
 ⟨some 23, .p (.un .not (t 22)), (some (18, true)), none⟩,
 o 24 (.p (.pick (t 18) (t 23) (.const (.bool false))))])
 (.cond (t 24)
 .ret
 .skip))))
 (.region 0 [0, 1, 8, 9, 10] [
 o 25 (.p (.bin .add (t 10) (.const (.int .i64 1)))),
 mv 10 25]))))
def c_Mesh_All_1 : CFunc := ⟨false, 26, [],
 (.seq
 (.region 0 [0, 1, 8, 9, 10] [
 o 5 (.p (.load1 (t 1))),
 o 6 (.p (.nilCheck (t 5))),
 o 7 (.p (.fieldAddr 1 (t 6))),
 o 8 (.p (.load1 (t 7))),
 o 9 (.p (.len (t 8))),
 o 10 (.p (.move (.const (.int .i64 0))))])
 (.block 0
 (.loop [0, 1, 8, 9, 10] c_Mesh_All_1_lp0)))⟩

/-- (*isohyet/mesh.Mesh).Edges$1 -/
@[reducible] def n_Mesh_Edges_1 : Nat := 81
def c_Mesh_Edges_1_lp0 : CCode :=
 (.seq
 (.region 0 [1, 3, 5, 16, 17] [
 o 17 (.p (.bin .lss (t 16) (.const (.int .i64 3))))])
 (.seq
 (.cond (t 17)
 .skip
 (.exit 2))
 (.seq
 (.block 3
 (.seq
 (.region 0 [1, 3, 5, 6, 16] [
 mv 18 16,
 mv 6 18])
 (.seq
 (.region 0 [1, 3, 5, 6, 7, 8, 16] [
 mv 19 6,
 o 20 (.p (.bin .add (t 19) (.const (.int .i64 1)))),
 o 21 (.p (.bin .rem (t 20) (.const (.int .i64 3)))),
 o 22 (.p (.fieldAddr 0 (t 5))),
 o 23 (.p (.indexAddrA 3 1 (t 22) (t 21))),
 o 24 (.p (.load1 (t 23))),
 mv 25 6,
 o 26 (.p (.bin .add (t 25) (.const (.int .i64 2)))),
 o 27 (.p (.bin .rem (t 26) (.const (.int .i64 3)))),
 o 28 (.p (.fieldAddr 0 (t 5))),
 o 29 (.p (.indexAddrA 3 1 (t 28) (t 27))),
 o 30 (.p (.load1 (t 29))),
 mv 7 24,
 mv 8 30])
 (.seq
 (.region 0 [1, 3, 5, 6, 7, 8, 9, 16] [
 o 31 (.p (.load1 (t 1))),
 mv 32 6,
 o 33 (.p (.fieldAddr 3 (t 5))),
 o 34 (.p (.indexAddrA 3 1 (t 33) (t 32))),
 o 35 (.p (.load1 (t 34))),
 o 36 (.e (.call (.func 42) [t 31, t 35])),
 o 37 (.p (.un .not (t 36))),
 mv 9 37])
 (.seq
 (.region 0 [1, 3, 5, 6, 7, 8, 9, 16, 43] [
 mv 38 9,
 mv 39 38,
 ⟨some 40, .p (.move (t 7)), (some (39, false)), none⟩,
 ⟨some 41, .p (.move (t 8)), (some (39, false)), none⟩,
 ⟨some 42, .p (.bin .lss (t 40) (t 41)), (some (39, false)), none⟩,
 o 43 (.p (.pick (t 39) (.const (.bool true)) (t 42)))])
 (.cond (t 43)
 (.region 1 [1, 3, 5, 16] [
 o 44 (.p (.load1 (t 3))),
 mv 45 7,
 mv 46 8,
 o 47 (.p (.min [t 45, t 46])),
 mv 48 7,
 mv 49 8,
 o 50 (.p (.max [t 48, t 49])),
 mv 51 6,
 o 52 (.p (.fieldAddr 6 (t 5))),
 o 53 (.p (.indexAddrA 3 1 (t 52) (t 51))),
 o 54 (.p (.load1 (t 53))),
 mv 55 9,
 o 56 (.p (.build [.int .i64 0, .int .i64 0, .bool false, .bool false] [(0, 1, t 47), (1, 1, t 50), (2, 1, t 54), (3, 1, t 55)])),
 o 57 (.a 0 (.buildSlice 4 1 [.int .i64 0, .int .i64 0, .bool false, .bool false] [(0, 4, t 56)])),
 o 58 (.e (.append 4 24 (t 44) (t 57))),
 p (.e (.store 1 (t 3) (t 58)))])
 .skip))))))
 (.region 0 [1, 3, 5, 16] [
 o 59 (.p (.bin .add (t 16) (.const (.int .i64 1)))),
 mv 16 59]))))
def c_Mesh_Edges_1_0a : CCode :=
 (.region 1 [1, 3, 5] [
 o 5 (.a 0 (.alloc [.int .i64 0, .int .i64 0, .int .i64 0, .int .i64 0, .int .i64 0, .int .i64 0, .bool false, .bool false, .bool false])),
 p (.e (.store 9 (t 5) (t 15)))])
def c_Mesh_Edges_1_0b : CCode :=
 (.block 1
 (.seq
 (.region 0 [1, 3, 5, 16] [
 o 16 (.p (.move (.const (.int .i64 0))))])
 (.block 2
 (.loop [1, 3, 5, 16] c_Mesh_Edges_1_lp0))))
def c_Mesh_Edges_1_lp1 : CCode :=
 (.seq
 (.region 0 [0, 62, 63, 64, 65] [
 o 65 (.p (.bin .lss (t 64) (t 63)))])
 (.seq
 (.cond (t 65)
 .skip
 (.exit 4))
 (.seq
 (.block 5
 (.seq
 (.region 1 [0, 11, 62, 63, 64] [
 o 66 (.p (.indexAddr 4 (t 62) (t 64))),
 o 67 (.p (.loadN 4 (t 66))),
 o 11 (.a 0 (.alloc [.int .i64 0, .int .i64 0, .bool false, .bool false])),
 p (.e (.store 4 (t 11) (t 67)))])
 (.seq
 (.region 0 [0, 62, 63, 64, 71] [
 mv 68 0,
 o 69 (.p (.loadN 4 (t 11))),
 o 70 (.e (.call (t 68) [t 69])),
 o 71 (.p (.un .not (t 70)))])
 (.cond (t 71)
 .ret
 .skip))))
 (.region 0 [0, 62, 63, 64] [
 o 72 (.p (.bin .add (t 64) (.const (.int .i64 1)))),
 mv 64 72]))))
def c_Mesh_Edges_1 : CFunc := ⟨false, 73, [],
 (.seq
 (.region 1 [0, 1, 3] [
 o 3 (.a 0 (.alloc [.slice none 0 0]))])
 (.seq
 (.seq
 (.region 0 [0, 1, 3, 13] [
 o 12 (.p (.load1 (t 1))),
 o 13 (.e (.call (.func 39) [t 12]))])
 (.block 0
 (.rangeFunc (t 13) [14, 15] c_Mesh_Edges_1_0a c_Mesh_Edges_1_0b)))
 (.seq
 (.region 0 [0, 3] [
 o 60 (.p (.load1 (t 3))),
 o 61 (.e (.call (.func 82) [t 60, .func 83]))])
 (.seq
 (.region 0 [0, 62, 63, 64] [
 o 62 (.p (.load1 (t 3))),
 o 63 (.p (.len (t 62))),
 o 64 (.p (.move (.const (.int .i64 0))))])
 (.block 4
 (.loop [0, 62, 63, 64] c_Mesh_Edges_1_lp1))))))⟩

/-- slices.SortFunc[[]isohyet/mesh.Edge,isohyet/mesh.Edge] -/
@[reducible] def n_slices_SortFunc_Edge : Nat := 82
def c_slices_SortFunc_Edge : CFunc := ⟨false, 14, [],
 (.seq
 (.region 0 [0, 1, 4] [
 mv 5 0,
 o 6 (.p (.len (t 5))),
 mv 4 6])
 (.region 0 [] [
 mv 7 0,
 mv 8 4,
 mv 9 4,
 o 10 (.p (.conv .u64 (t 9))),
 o 11 (.e (.call (.func 112) [t 10])),
 mv 12 1,
 o 13 (.e (.call (.func 111) [t 7, .const (.int .i64 0), t 8, t 11, t 12]))]))⟩

/-- (*isohyet/mesh.Mesh).Edges$1$1 -/
@[reducible] def n_Mesh_Edges_1_1 : Nat := 83
def c_Mesh_Edges_1_1 : CFunc := ⟨true, 20, [.tmp 4],
 (.seq
 (.region 2 [2, 3] [
 o 2 (.a 0 (.box (t 0))),
 o 3 (.a 1 (.box (t 1))),
 o 4 (.p (.move (.const (.int .i64 0))))])
 (.seq
 (.seq
 (.region 0 [2, 3, 9] [
 o 5 (.p (.fieldAddr 0 (t 2))),
 o 6 (.p (.load1 (t 5))),
 o 7 (.p (.fieldAddr 0 (t 3))),
 o 8 (.p (.load1 (t 7))),
 o 9 (.p (.bin .neq (t 6) (t 8)))])
 (.cond (t 9)
 (.seq
 (.region 0 [4] [
 o 10 (.p (.fieldAddr 0 (t 2))),
 o 11 (.p (.load1 (t 10))),
 o 12 (.p (.fieldAddr 0 (t 3))),
 o 13 (.p (.load1 (t 12))),
 o 14 (.p (.bin .sub (t 11) (t 13))),
 mv 4 14])
 .ret)
 .skip))
 (.seq
 (.region 0 [4] [
 o 15 (.p (.fieldAddr 1 (t 2))),
 o 16 (.p (.load1 (t 15))),
 o 17 (.p (.fieldAddr 1 (t 3))),
 o 18 (.p (.load1 (t 17))),
 o 19 (.p (.bin .sub (t 16) (t 18))),
 mv 4 19])
 .ret)))⟩

/-- isohyet/frac.Add -/
@[reducible] def n_frac_Add : Nat := 84
def c_frac_Add : CFunc := ⟨true, 24, [.cellN 4 3],
 (.seq
 (.region 3 [2, 3, 4] [
 o 2 (.a 0 (.box (t 0))),
 o 3 (.a 1 (.box (t 1))),
 o 4 (.a 2 (.alloc [.bool false, .slice none 0 0, .slice none 0 0]))])
 (.seq
 (.region 1 [2, 3, 4, 5] [
 o 6 (.p (.fieldAddr 0 (t 2))),
 l 7 0 1 (.p (.loadN 2 (t 6))),
 o 8 (.p (.loadN 3 (t 3))),
 o 9 (.e (.call (.func 63) [t 8])),
 o 10 (.e (.call (.func 62) [t 7, t 9])),
 o 11 (.p (.fieldAddr 0 (t 3))),
 l 12 2 1 (.p (.loadN 2 (t 11))),
 l 13 2 0 (.p (.loadN 3 (t 2))),
 o 14 (.e (.call (.func 63) [t 13])),
 o 15 (.e (.call (.func 62) [t 12, t 14])),
 o 16 (.e (.call (.func 113) [t 10, t 15])),
 o 5 (.a 0 (.alloc [.bool false, .slice none 0 0])),
 p (.e (.store 2 (t 5) (t 16)))])
 (.seq
 (.region 0 [4] [
 l 17 0 3 (.p (.loadN 2 (t 5))),
 o 18 (.p (.loadN 3 (t 2))),
 o 19 (.e (.call (.func 96) [t 18])),
 l 20 1 0 (.p (.loadN 3 (t 3))),
 o 21 (.e (.call (.func 96) [t 20])),
 o 22 (.e (.call (.func 95) [t 19, t 21])),
 o 23 (.e (.call (.func 27) [t 17, t 22])),
 p (.e (.store 3 (t 4) (t 23)))])
 .ret)))⟩

/-- isohyet/frac.Neg -/
@[reducible] def n_frac_Neg : Nat := 85
def c_frac_Neg : CFunc := ⟨true, 9, [.cellN 2 3],
 (.seq
 (.region 2 [1, 2] [
 o 1 (.a 0 (.box (t 0))),
 o 2 (.a 1 (.alloc [.bool false, .slice none 0 0, .slice none 0 0]))])
 (.seq
 (.region 0 [2] [
 o 3 (.p (.fieldAddr 0 (t 1))),
 o 4 (.p (.loadN 2 (t 3))),
 o 5 (.e (.call (.func 114) [t 4])),
 l 6 1 0 (.p (.loadN 3 (t 1))),
 o 7 (.e (.call (.func 96) [t 6])),
 o 8 (.e (.call (.func 27) [t 5, t 7])),
 p (.e (.store 3 (t 2) (t 8)))])
 .ret))⟩

/-- isohyet/frac.Mul -/
@[reducible] def n_frac_Mul : Nat := 86
def c_frac_Mul : CFunc := ⟨true, 16, [.cellN 4 3],
 (.seq
 (.region 3 [2, 3, 4] [
 o 2 (.a 0 (.box (t 0))),
 o 3 (.a 1 (.box (t 1))),
 o 4 (.a 2 (.alloc [.bool false, .slice none 0 0, .slice none 0 0]))])
 (.seq
 (.region 0 [4] [
 o 5 (.p (.fieldAddr 0 (t 2))),
 o 6 (.p (.loadN 2 (t 5))),
 o 7 (.p (.fieldAddr 0 (t 3))),
 o 8 (.p (.loadN 2 (t 7))),
 o 9 (.e (.call (.func 62) [t 6, t 8])),
 l 10 1 0 (.p (.loadN 3 (t 2))),
 o 11 (.e (.call (.func 96) [t 10])),
 l 12 2 0 (.p (.loadN 3 (t 3))),
 o 13 (.e (.call (.func 96) [t 12])),
 o 14 (.e (.call (.func 95) [t 11, t 13])),
 o 15 (.e (.call (.func 27) [t 9, t 14])),
 p (.e (.store 3 (t 4) (t 15)))])
 .ret))⟩

/-- math/bits.Len64 -/
@[reducible] def n_bits_Len64 : Nat := 87
def c_bits_Len64_r0 : CCode :=
 (.seq
 (.region 0 [2] [
 mv 19 2,
 mv 20 0,
 o 21 (.p (.conv .u8 (t 20))),
 o 22 (.p (.indexS (.const (.string ⟨#[0, 1, 2, 2, 3, 3, 3, 3, 4, 4, 4, 4, 4, 4, 4, 4, 5, 5, 5, 5, 5, 5, 5, 5, 5, 5, 5, 5, 5, 5, 5, 5, 6, 6, 6, 6, 6, 6, 6, 6, 6, 6, 6, 6, 6, 6, 6, 6, 6, 6, 6, 6, 6, 6, 6, 6, 6, 6, 6, 6, 6, 6, 6, 6, 7, 7, 7, 7, 7, 7, 7, 7, 7, 7, 7, 7, 7, 7, 7, 7, 7, 7, 7, 7, 7, 7, 7, 7, 7, 7, 7, 7, 7, 7, 7, 7, 7, 7, 7, 7, 7, 7, 7, 7, 7, 7, 7, 7, 7, 7, 7, 7, 7, 7, 7, 7, 7, 7, 7, 7, 7, 7, 7, 7, 7, 7, 7, 7, 8, 8, 8, 8, 8, 8, 8, 8, 8, 8, 8, 8, 8, 8, 8, 8, 8, 8, 8, 8, 8, 8, 8, 8, 8, 8, 8, 8, 8, 8, 8, 8, 8, 8, 8, 8, 8, 8, 8, 8, 8, 8, 8, 8, 8, 8, 8, 8, 8, 8, 8, 8, 8, 8, 8, 8, 8, 8, 8, 8, 8, 8, 8, 8, 8, 8, 8, 8, 8, 8, 8, 8, 8, 8, 8, 8, 8, 8, 8, 8, 8, 8, 8, 8, 8, 8, 8, 8, 8, 8, 8, 8, 8, 8, 8, 8, 8, 8, 8, 8, 8, 8, 8, 8, 8, 8, 8, 8, 8, 8, 8, 8, 8, 8, 8, 8, 8, 8, 8, 8, 8, 8, 8, 8, 8, 8, 8, 8]⟩)) (t 21))),
 o 23 (.p (.conv .i64 (t 22))),
 o 24 (.p (.bin .add (t 19) (t 23))),
 mv 2 24])
 .ret)
def c_bits_Len64_r1 : CCode :=
 (.seq
 (.seq
 (.region 0 [0, 2, 14] [
 mv 13 0,
 o 14 (.p (.bin .geq (t 13) (.const (.int .u64 256))))])
 (.cond (t 14)
 (.seq
 (.region 0 [0, 2] [
 mv 15 0,
 o 16 (.p (.bin .shr (t 15) (.const (.int .u64 8)))),
 mv 0 16])
 (.region 0 [0, 2] [
 mv 17 2,
 o 18 (.p (.bin .add (t 17) (.const (.int .i64 8)))),
 mv 2 18]))
 .skip))
 c_bits_Len64_r0)
def c_bits_Len64_r2 : CCode :=
 (.seq
 (.seq
 (.region 0 [0, 2, 8] [
 mv 7 0,
 o 8 (.p (.bin .geq (t 7) (.const (.int .u64 65536))))])
 (.cond (t 8)
 (.seq
 (.region 0 [0, 2] [
 mv 9 0,
 o 10 (.p (.bin .shr (t 9) (.const (.int .u64 16)))),
 mv 0 10])
 (.region 0 [0, 2] [
 mv 11 2,
 o 12 (.p (.bin .add (t 11) (.const (.int .i64 16)))),
 mv 2 12]))
 .skip))
 c_bits_Len64_r1)
def c_bits_Len64 : CFunc := ⟨true, 25, [.tmp 2],
 (.seq
 (.region 0 [0, 2] [
 o 2 (.p (.move (.const (.int .i64 0))))])
 (.seq
 (.seq
 (.region 0 [0, 2, 4] [
 mv 3 0,
 o 4 (.p (.bin .geq (t 3) (.const (.int .u64 4294967296))))])
 (.cond (t 4)
 (.seq
 (.region 0 [0] [
 mv 5 0,
 o 6 (.p (.bin .shr (t 5) (.const (.int .u64 32)))),
 mv 0 6])
 (.region 0 [0, 2] [
 o 2 (.p (.move (.const (.int .i64 32))))]))
 .skip))
 c_bits_Len64_r2))⟩

/-- isohyet/mag.Cmp -/
@[reducible] def n_mag_Cmp : Nat := 88
def c_mag_Cmp_lp0 : CCode :=
 (.seq
 (.seq
 (.region 0 [0, 1, 5, 24] [
 mv 23 5,
 o 24 (.p (.bin .geq (t 23) (.const (.int .i64 0))))])
 (.cond (t 24)
 .skip
 (.exit 0)))
 (.seq
 (.block 1
 (.seq
 (.region 0 [0, 1, 5, 35] [
 mv 27 0,
 mv 28 5,
 o 29 (.p (.indexAddr 1 (t 27) (t 28))),
 o 30 (.p (.load1 (t 29))),
 mv 31 1,
 mv 32 5,
 o 33 (.p (.indexAddr 1 (t 31) (t 32))),
 o 34 (.p (.load1 (t 33))),
 o 35 (.p (.bin .neq (t 30) (t 34)))])
 (.cond (t 35)
 (.seq
 (.seq
 (.region 0 [44] [
 mv 36 0,
 mv 37 5,
 o 38 (.p (.indexAddr 1 (t 36) (t 37))),
 o 39 (.p (.load1 (t 38))),
 mv 40 1,
 mv 41 5,
 o 42 (.p (.indexAddr 1 (t 40) (t 41))),
 o 43 (.p (.load1 (t 42))),
 o 44 (.p (.bin .lss (t 39) (t 43)))])
 (.cond (t 44)
 (.seq
 (.region 0 [4] [
 o 4 (.p (.move (.const (.int .i64 (-1)))))])
 .ret)
 .skip))
 (.seq
 (.region 0 [4] [
 o 4 (.p (.move (.const (.int .i64 1))))])
 .ret))
 .skip)))
 (.region 0 [0, 1, 5] [
 mv 25 5,
 o 26 (.p (.bin .sub (t 25) (.const (.int .i64 1)))),
 mv 5 26])))
def c_mag_Cmp : CFunc := ⟨true, 45, [.tmp 4],
 (.seq
 (.region 0 [0, 1] [
 o 4 (.p (.move (.const (.int .i64 0))))])
 (.seq
 (.region 0 [0, 1] [
 mv 6 0,
 o 7 (.e (.call (.func 59) [t 6])),
 mv 8 1,
 o 9 (.e (.call (.func 59) [t 8])),
 mv 0 7,
 mv 1 9])
 (.seq
 (.seq
 (.region 0 [0, 1, 14] [
 mv 10 0,
 o 11 (.p (.len (t 10))),
 mv 12 1,
 o 13 (.p (.len (t 12))),
 o 14 (.p (.bin .neq (t 11) (t 13)))])
 (.cond (t 14)
 (.seq
 (.seq
 (.region 0 [19] [
 mv 15 0,
 o 16 (.p (.len (t 15))),
 mv 17 1,
 o 18 (.p (.len (t 17))),
 o 19 (.p (.bin .lss (t 16) (t 18)))])
 (.cond (t 19)
 (.seq
 (.region 0 [4] [
 o 4 (.p (.move (.const (.int .i64 (-1)))))])
 .ret)
 .skip))
 (.seq
 (.region 0 [4] [
 o 4 (.p (.move (.const (.int .i64 1))))])
 .ret))
 .skip))
 (.seq
 (.seq
 (.region 0 [0, 1, 5] [
 mv 20 0,
 o 21 (.p (.len (t 20))),
 o 22 (.p (.bin .sub (t 21) (.const (.int .i64 1)))),
 mv 5 22])
 (.block 0
 (.loop [0, 1, 5] c_mag_Cmp_lp0)))
 (.seq
 (.region 0 [4] [
 o 4 (.p (.move (.const (.int .i64 0))))])
 .ret)))))⟩

/-- isohyet/mag.word -/
@[reducible] def n_mag_word : Nat := 89
def c_mag_word_lp0 : CCode :=
 (.seq
 (.seq
 (.region 0 [0, 1, 6, 7, 8, 16] [
 mv 15 8,
 o 16 (.p (.bin .geq (t 15) (.const (.int .i64 0))))])
 (.cond (t 16)
 .skip
 (.exit 0)))
 (.seq
 (.block 1
 (.region 0 [0, 1, 6, 7, 8] [
 mv 20 6,
 mv 21 8,
 mv 22 7,
 mv 23 0,
 mv 24 8,
 o 25 (.p (.indexAddr 1 (t 23) (t 24))),
 o 26 (.p (.load1 (t 25))),
 mv 27 1,
 o 28 (.e (.call (.func 115) [t 22, t 26, t 27])),
 mv 19 28,
 o 29 (.p (.extract (t 19) 0)),
 o 30 (.p (.extract (t 19) 1)),
 o 31 (.p (.indexAddr 1 (t 20) (t 21))),
 p (.e (.store 1 (t 31) (t 29))),
 mv 7 30]))
 (.region 0 [0, 1, 6, 7, 8] [
 mv 17 8,
 o 18 (.p (.bin .sub (t 17) (.const (.int .i64 1)))),
 mv 8 18])))
def c_mag_word : CFunc := ⟨true, 35, [.tmp 4, .tmp 5],
 (.seq
 (.region 0 [0, 1] [
 o 4 (.p (.move (.const (.slice none 0 0)))),
 o 5 (.p (.move (.const (.int .u64 0))))])
 (.seq
 (.region 1 [0, 1, 6] [
 mv 9 0,
 o 10 (.p (.len (t 9))),
 o 11 (.a 0 (.makeSlice 1 8 [.int .u64 0] (t 10) (t 10))),
 mv 6 11])
 (.seq
 (.region 0 [0, 1, 6, 7] [
 o 7 (.p (.move (.const (.int .u64 0))))])
 (.seq
 (.seq
 (.region 0 [0, 1, 6, 7, 8] [
 mv 12 0,
 o 13 (.p (.len (t 12))),
 o 14 (.p (.bin .sub (t 13) (.const (.int .i64 1)))),
 mv 8 14])
 (.block 0
 (.loop [0, 1, 6, 7, 8] c_mag_word_lp0)))
 (.seq
 (.region 0 [4, 5] [
 mv 32 6,
 o 33 (.e (.call (.func 59) [t 32])),
 mv 34 7,
 mv 4 33,
 mv 5 34])
 .ret)))))⟩

/-- isohyet/mag.Mul -/
@[reducible] def n_mag_Mul : Nat := 95
def c_mag_Mul_lp0 : CCode :=
 (.seq
 (.region 0 [1, 5, 6, 7, 8, 20, 21, 22, 27, 28, 29, 30] [
 o 30 (.p (.bin .lss (t 29) (t 28)))])
 (.seq
 (.cond (t 30)
 .skip
 (.exit 2))
 (.seq
 (.block 3
 (.seq
 (.region 0 [1, 5, 6, 7, 8, 9, 10, 20, 21, 22, 27, 28, 29] [
 mv 31 29,
 o 32 (.p (.indexAddr 1 (t 27) (t 29))),
 o 33 (.p (.load1 (t 32))),
 mv 9 31,
 mv 10 33])
 (.seq
 (.region 0 [1, 5, 6, 7, 8, 9, 11, 12, 20, 21, 22, 27, 28, 29] [
 mv 35 7,
 mv 36 10,
 o 37 (.e (.call (.func 116) [t 35, t 36])),
 mv 34 37,
 o 38 (.p (.extract (t 34) 0)),
 o 39 (.p (.extract (t 34) 1)),
 mv 11 38,
 mv 12 39])
 (.seq
 (.region 0 [1, 5, 6, 7, 8, 9, 11, 12, 20, 21, 22, 27, 28, 29] [
 o 13 (.p (.move (.const (.int .u64 0))))])
 (.seq
 (.region 0 [1, 5, 6, 7, 9, 11, 12, 13, 20, 21, 22, 27, 28, 29] [
 mv 41 12,
 mv 42 8,
 o 43 (.e (.call (.func 58) [t 41, t 42, .const (.int .u64 0)])),
 mv 40 43,
 o 44 (.p (.extract (t 40) 0)),
 o 45 (.p (.extract (t 40) 1)),
 mv 12 44,
 mv 13 45])
 (.seq
 (.region 0 [1, 5, 6, 7, 9, 11, 12, 20, 21, 22, 27, 28, 29] [
 mv 46 11,
 mv 47 13,
 o 48 (.p (.bin .add (t 46) (t 47))),
 mv 11 48])
 (.seq
 (.region 0 [1, 5, 6, 7, 11, 13, 20, 21, 22, 27, 28, 29] [
 mv 50 5,
 mv 51 6,
 mv 52 9,
 o 53 (.p (.bin .add (t 51) (t 52))),
 mv 54 5,
 mv 55 6,
 mv 56 9,
 o 57 (.p (.bin .add (t 55) (t 56))),
 o 58 (.p (.indexAddr 1 (t 54) (t 57))),
 o 59 (.p (.load1 (t 58))),
 mv 60 12,
 o 61 (.e (.call (.func 58) [t 59, t 60, .const (.int .u64 0)])),
 mv 49 61,
 o 62 (.p (.extract (t 49) 0)),
 o 63 (.p (.extract (t 49) 1)),
 o 64 (.p (.indexAddr 1 (t 50) (t 53))),
 p (.e (.store 1 (t 64) (t 62))),
 mv 13 63])
 (.region 0 [1, 5, 6, 7, 8, 20, 21, 22, 27, 28, 29] [
 mv 65 11,
 mv 66 13,
 o 67 (.p (.bin .add (t 65) (t 66))),
 mv 8 67]))))))))
 (.region 0 [1, 5, 6, 7, 8, 20, 21, 22, 27, 28, 29] [
 o 68 (.p (.bin .add (t 29) (.const (.int .i64 1)))),
 mv 29 68]))))
def c_mag_Mul_lp1 : CCode :=
 (.seq
 (.region 0 [1, 5, 20, 21, 22, 23] [
 o 23 (.p (.bin .lss (t 22) (t 21)))])
 (.seq
 (.cond (t 23)
 .skip
 (.exit 0))
 (.seq
 (.block 1
 (.seq
 (.region 0 [1, 5, 6, 7, 20, 21, 22] [
 mv 24 22,
 o 25 (.p (.indexAddr 1 (t 20) (t 22))),
 o 26 (.p (.load1 (t 25))),
 mv 6 24,
 mv 7 26])
 (.seq
 (.region 0 [1, 5, 6, 7, 8, 20, 21, 22] [
 o 8 (.p (.move (.const (.int .u64 0))))])
 (.seq
 (.seq
 (.region 0 [1, 5, 6, 7, 8, 20, 21, 22, 27, 28, 29] [
 mv 27 1,
 o 28 (.p (.len (t 27))),
 o 29 (.p (.move (.const (.int .i64 0))))])
 (.block 2
 (.loop [1, 5, 6, 7, 8, 20, 21, 22, 27, 28, 29] c_mag_Mul_lp0)))
 (.region 0 [1, 5, 20, 21, 22] [
 mv 69 5,
 mv 70 6,
 mv 71 1,
 o 72 (.p (.len (t 71))),
 o 73 (.p (.bin .add (t 70) (t 72))),
 mv 74 8,
 o 75 (.p (.indexAddr 1 (t 69) (t 73))),
 p (.e (.store 1 (t 75) (t 74)))])))))
 (.region 0 [1, 5, 20, 21, 22] [
 o 76 (.p (.bin .add (t 22) (.const (.int .i64 1)))),
 mv 22 76]))))
def c_mag_Mul : CFunc := ⟨true, 79, [.tmp 4],
 (.seq
 (.region 0 [0, 1] [
 o 4 (.p (.move (.const (.slice none 0 0))))])
 (.seq
 (.region 1 [0, 1, 5] [
 mv 14 0,
 o 15 (.p (.len (t 14))),
 mv 16 1,
 o 17 (.p (.len (t 16))),
 o 18 (.p (.bin .add (t 15) (t 17))),
 o 19 (.a 0 (.makeSlice 1 8 [.int .u64 0] (t 18) (t 18))),
 mv 5 19])
 (.seq
 (.seq
 (.region 0 [1, 5, 20, 21, 22] [
 mv 20 0,
 o 21 (.p (.len (t 20))),
 o 22 (.p (.move (.const (.int .i64 0))))])
 (.block 0
 (.loop [1, 5, 20, 21, 22] c_mag_Mul_lp1)))
 (.seq
 (.region 0 [4] [
 mv 77 5,
 o 78 (.e (.call (.func 59) [t 77])),
 mv 4 78])
 .ret))))⟩

/-- isohyet/frac.den -/
@[reducible] def n_frac_den : Nat := 96
def c_frac_den : CFunc := ⟨true, 10, [.tmp 2],
 (.seq
 (.region 1 [1] [
 o 1 (.a 0 (.box (t 0))),
 o 2 (.p (.move (.const (.slice none 0 0))))])
 (.seq
 (.seq
 (.region 0 [1, 6] [
 o 3 (.p (.fieldAddr 2 (t 1))),
 o 4 (.p (.load1 (t 3))),
 o 5 (.e (.call (.func 54) [t 4])),
 o 6 (.p (.bin .eql (t 5) (.const (.int .i64 0))))])
 (.cond (t 6)
 (.seq
 (.region 0 [2] [
 o 7 (.e (.call (.func 52) [])),
 mv 2 7])
 .ret)
 .skip))
 (.seq
 (.region 0 [2] [
 o 8 (.p (.fieldAddr 2 (t 1))),
 o 9 (.p (.load1 (t 8))),
 mv 2 9])
 .ret)))⟩

/-- isohyet/wide.Sign -/
@[reducible] def n_wide_Sign : Nat := 97
def c_wide_Sign : CFunc := ⟨true, 10, [.tmp 2],
 (.seq
 (.region 1 [1] [
 o 1 (.a 0 (.box (t 0))),
 o 2 (.p (.move (.const (.int .i64 0))))])
 (.seq
 (.block 0
 (.seq
 (.region 0 [1, 3] [
 o 4 (.p (.loadN 2 (t 1))),
 o 5 (.e (.call (.func 118) [t 4])),
 mv 3 5])
 (.cond (t 3)
 (.seq
 (.region 0 [2] [
 o 2 (.p (.move (.const (.int .i64 (-1)))))])
 .ret)
 (.seq
 (.region 0 [6] [
 o 7 (.p (.loadN 2 (t 1))),
 o 8 (.p (.build [.int .u64 0, .int .u64 0] [])),
 o 9 (.p (.eq false (.agg [true, true]) (t 7) (t 8))),
 mv 6 9])
 (.cond (t 6)
 (.seq
 (.region 0 [2] [
 o 2 (.p (.move (.const (.int .i64 0))))])
 .ret)
 .skip)))))
 (.seq
 (.region 0 [2] [
 o 2 (.p (.move (.const (.int .i64 1))))])
 .ret)))⟩

/-- isohyet/pred.area2 -/
@[reducible] def n_pred_area2 : Nat := 98
def c_pred_area2 : CFunc := ⟨true, 28, [.cellN 6 2],
 (.seq
 (.region 4 [3, 4, 5, 6] [
 o 3 (.a 0 (.box (t 0))),
 o 4 (.a 1 (.box (t 1))),
 o 5 (.a 2 (.box (t 2))),
 o 6 (.a 3 (.alloc [.int .u64 0, .int .u64 0]))])
 (.seq
 (.region 0 [6] [
 o 7 (.p (.fieldAddr 0 (t 4))),
 o 8 (.p (.load1 (t 7))),
 o 9 (.p (.fieldAddr 0 (t 3))),
 o 10 (.p (.load1 (t 9))),
 o 11 (.p (.bin .sub (t 8) (t 10))),
 o 12 (.p (.fieldAddr 1 (t 4))),
 o 13 (.p (.load1 (t 12))),
 o 14 (.p (.fieldAddr 1 (t 3))),
 o 15 (.p (.load1 (t 14))),
 o 16 (.p (.bin .sub (t 13) (t 15))),
 o 17 (.p (.fieldAddr 0 (t 5))),
 o 18 (.p (.load1 (t 17))),
 o 19 (.p (.fieldAddr 0 (t 3))),
 o 20 (.p (.load1 (t 19))),
 o 21 (.p (.bin .sub (t 18) (t 20))),
 o 22 (.p (.fieldAddr 1 (t 5))),
 o 23 (.p (.load1 (t 22))),
 o 24 (.p (.fieldAddr 1 (t 3))),
 o 25 (.p (.load1 (t 24))),
 o 26 (.p (.bin .sub (t 23) (t 25))),
 o 27 (.e (.call (.func 119) [t 11, t 16, t 21, t 26])),
 p (.e (.store 2 (t 6) (t 27)))])
 .ret))⟩

/-- isohyet/walk.first -/
@[reducible] def n_walk_first : Nat := 99
def c_walk_first_0a : CCode :=
 (.region 0 [2, 3] [
 mv 3 6])
def c_walk_first_0b : CCode :=
 (.block 1
 (.seq
 (.region 0 [] [
 mv 8 3,
 p (.e (.store 1 (t 2) (t 8)))])
 .ret))
def c_walk_first : CFunc := ⟨true, 9, [.cell1 2],
 (.seq
 (.region 1 [0, 2] [
 o 2 (.a 0 (.alloc [.int .i64 0]))])
 (.seq
 (.seq
 (.region 0 [2, 5] [
 mv 4 0,
 o 5 (.e (.call (.func 39) [t 4]))])
 (.block 0
 (.rangeFunc (t 5) [6, 7] c_walk_first_0a c_walk_first_0b)))
 (.seq
 (.region 0 [2] [
 p (.e (.store 1 (t 2) (.const (.int .i64 (-1)))))])
 .ret)))⟩

/-- isohyet/cavity.across -/
@[reducible] def n_cavity_across : Nat := 100
def c_cavity_across_lp0 : CCode :=
 (.seq
 (.region 0 [2, 3, 9, 18, 19] [
 o 19 (.p (.bin .lss (t 18) (.const (.int .i64 3))))])
 (.seq
 (.cond (t 19)
 .skip
 (.exit 0))
 (.seq
 (.block 1
 (.seq
 (.region 0 [2, 3, 9, 10, 18] [
 mv 20 18,
 mv 10 20])
 (.seq
 (.region 0 [2, 3, 9, 10, 18, 34] [
 mv 21 10,
 o 22 (.p (.fieldAddr 0 (t 9))),
 o 23 (.p (.indexAddrA 3 1 (t 22) (t 21))),
 o 24 (.p (.load1 (t 23))),
 mv 25 2,
 o 26 (.p (.bin .neq (t 24) (t 25))),
 mv 27 26,
 ⟨some 28, .p (.move (t 10)), (some (27, true)), none⟩,
 ⟨some 29, .p (.fieldAddr 0 (t 9)), (some (27, true)), none⟩,
 ⟨some 30, .p (.indexAddrA 3 1 (t 29) (t 28)), (some (27, true)), none⟩,
 ⟨some 31, .p (.load1 (t 30)), (some (27, true)), none⟩,
 ⟨some 32, .p (.move (t 3)), (some (27, true)), none⟩,
 ⟨some 33, .p (.bin .neq (t 31) (t 32)), (some (27, true)), none⟩,
 o 34 (.p (.pick (t 27) (t 33) (.const (.bool false))))])
 (.cond (t 34)
 (.seq
 (.region 0 [8] [
 mv 35 10,
 o 36 (.p (.fieldAddr 3 (t 9))),
 o 37 (.p (.indexAddrA 3 1 (t 36) (t 35))),
 o 38 (.p (.load1 (t 37))),
 mv 8 38])
 .ret)
 .skip))))
 (.region 0 [2, 3, 9, 18] [
 o 39 (.p (.bin .add (t 18) (.const (.int .i64 1)))),
 mv 18 39]))))
def c_cavity_across : CFunc := ⟨true, 40, [.tmp 8],
 (.seq
 (.region 0 [0, 1, 2, 3] [
 o 8 (.p (.move (.const (.int .i64 0))))])
 (.seq
 (.region 1 [2, 3, 9] [
 mv 11 0,
 o 12 (.p (.nilCheck (t 11))),
 o 13 (.p (.fieldAddr 1 (t 12))),
 o 14 (.p (.load1 (t 13))),
 mv 15 1,
 o 16 (.p (.indexAddr 9 (t 14) (t 15))),
 o 17 (.p (.loadN 9 (t 16))),
 o 9 (.a 0 (.alloc [.int .i64 0, .int .i64 0, .int .i64 0, .int .i64 0, .int .i64 0, .int .i64 0, .bool false, .bool false, .bool false])),
 p (.e (.store 9 (t 9) (t 17)))])
 (.seq
 (.seq
 (.region 0 [2, 3, 9, 18] [
 o 18 (.p (.move (.const (.int .i64 0))))])
 (.block 0
 (.loop [2, 3, 9, 18] c_cavity_across_lp0)))
 (.seq
 (.region 0 [8] [
 o 8 (.p (.move (.const (.int .i64 (-1)))))])
 .ret))))⟩

/-- isohyet/cavity.Conflict -/
@[reducible] def n_cavity_Conflict : Nat := 101
def c_cavity_Conflict_lp0 : CCode :=
 (.seq
 (.region 0 [0, 5, 7, 19, 20] [
 o 20 (.p (.bin .lss (t 19) (.const (.int .i64 3))))])
 (.seq
 (.cond (t 20)
 .skip
 (.exit 0))
 (.seq
 (.block 1
 (.seq
 (.region 0 [0, 5, 7, 8, 19] [
 mv 21 19,
 mv 8 21])
 (.seq
 (.seq
 (.region 0 [0, 5, 7, 8, 19, 25] [
 mv 22 8,
 o 23 (.p (.indexAddrA 3 1 (t 7) (t 22))),
 o 24 (.p (.load1 (t 23))),
 o 25 (.p (.bin .neq (t 24) (.const (.int .i64 (-1)))))])
 (.cond (t 25)
 (.exit 1)
 .skip))
 (.seq
 (.region 2 [5, 9, 10] [
 mv 26 0,
 o 27 (.p (.nilCheck (t 26))),
 o 28 (.p (.fieldAddr 0 (t 27))),
 o 29 (.p (.load1 (t 28))),
 mv 30 8,
 o 31 (.p (.bin .add (t 30) (.const (.int .i64 1)))),
 o 32 (.p (.bin .rem (t 31) (.const (.int .i64 3)))),
 o 33 (.p (.indexAddrA 3 1 (t 7) (t 32))),
 o 34 (.p (.load1 (t 33))),
 o 35 (.p (.indexAddr 2 (t 29) (t 34))),
 o 36 (.p (.loadN 2 (t 35))),
 mv 37 0,
 o 38 (.p (.nilCheck (t 37))),
 o 39 (.p (.fieldAddr 0 (t 38))),
 l 40 0 1 (.p (.load1 (t 39))),
 mv 41 8,
 o 42 (.p (.bin .add (t 41) (.const (.int .i64 2)))),
 o 43 (.p (.bin .rem (t 42) (.const (.int .i64 3)))),
 o 44 (.p (.indexAddrA 3 1 (t 7) (t 43))),
 l 45 0 1 (.p (.load1 (t 44))),
 o 46 (.p (.indexAddr 2 (t 40) (t 45))),
 l 47 0 1 (.p (.loadN 2 (t 46))),
 o 9 (.a 0 (.alloc [.int .i64 0, .int .i64 0])),
 o 10 (.a 1 (.alloc [.int .i64 0, .int .i64 0])),
 p (.e (.store 2 (t 9) (t 36))),
 p (.e (.store 2 (t 10) (t 47)))])
 (.seq
 (.region 0 [6] [
 o 48 (.p (.loadN 2 (t 9))),
 o 49 (.p (.loadN 2 (t 10))),
 o 50 (.p (.loadN 2 (t 5))),
 o 51 (.e (.call (.func 65) [t 48, t 49, t 50])),
 o 52 (.p (.bin .gtr (t 51) (.const (.int .i64 0)))),
 mv 53 52,
 ⟨some 54, .p (.loadN 2 (t 5)), (some (53, false)), none⟩,
 ⟨some 55, .p (.loadN 2 (t 9)), (some (53, false)), none⟩,
 ⟨some 56, .p (.loadN 2 (t 10)), (some (53, false)), none⟩,
 ⟨some 57, .e (.call (.func 120) [t 54, t 55, t 56]), (some (53, false)), none⟩,
 o 58 (.p (.pick (t 53) (.const (.bool true)) (t 57))),
 mv 6 58])
 .ret)))))
 (.region 0 [0, 5, 7, 19] [
 o 59 (.p (.bin .add (t 19) (.const (.int .i64 1)))),
 mv 19 59]))))
def c_cavity_Conflict : CFunc := ⟨true, 87, [.tmp 6],
 (.seq
 (.region 1 [0, 1, 5] [
 o 5 (.a 0 (.box (t 2))),
 o 6 (.p (.move (.const (.bool false))))])
 (.seq
 (.region 1 [0, 5, 7] [
 mv 11 0,
 o 12 (.p (.nilCheck (t 11))),
 o 13 (.p (.fieldAddr 1 (t 12))),
 o 14 (.p (.load1 (t 13))),
 mv 15 1,
 o 16 (.p (.indexAddr 9 (t 14) (t 15))),
 o 17 (.p (.fieldAddr 0 (t 16))),
 o 18 (.p (.loadN 3 (t 17))),
 o 7 (.a 0 (.alloc [.int .i64 0, .int .i64 0, .int .i64 0])),
 p (.e (.store 3 (t 7) (t 18)))])
 (.seq
 (.seq
 (.region 0 [0, 5, 7, 19] [
 o 19 (.p (.move (.const (.int .i64 0))))])
 (.block 0
 (.loop [0, 5, 7, 19] c_cavity_Conflict_lp0)))
 (.seq
 (.region 0 [6] [
 mv 60 0,
 o 61 (.p (.nilCheck (t 60))),
 o 62 (.p (.fieldAddr 0 (t 61))),
 o 63 (.p (.load1 (t 62))),
 o 64 (.p (.indexAddrA 3 1 (t 7) (.const (.int .i64 0)))),
 o 65 (.p (.load1 (t 64))),
 o 66 (.p (.indexAddr 2 (t 63) (t 65))),
 o 67 (.p (.loadN 2 (t 66))),
 mv 68 0,
 o 69 (.p (.nilCheck (t 68))),
 o 70 (.p (.fieldAddr 0 (t 69))),
 o 71 (.p (.load1 (t 70))),
 o 72 (.p (.indexAddrA 3 1 (t 7) (.const (.int .i64 1)))),
 o 73 (.p (.load1 (t 72))),
 o 74 (.p (.indexAddr 2 (t 71) (t 73))),
 o 75 (.p (.loadN 2 (t 74))),
 mv 76 0,
 o 77 (.p (.nilCheck (t 76))),
 o 78 (.p (.fieldAddr 0 (t 77))),
 o 79 (.p (.load1 (t 78))),
 o 80 (.p (.indexAddrA 3 1 (t 7) (.const (.int .i64 2)))),
 o 81 (.p (.load1 (t 80))),
 o 82 (.p (.indexAddr 2 (t 79) (t 81))),
 o 83 (.p (.loadN 2 (t 82))),
 o 84 (.p (.loadN 2 (t 5))),
 o 85 (.e (.call (.func 109) [t 67, t 75, t 83, t 84])),
 o 86 (.p (.bin .gtr (t 85) (.const (.int .i64 0)))),
 mv 6 86])
 .ret))))⟩

/-- slices.Sort[[]int,int] -/
@[reducible] def n_slices_Sort_int : Nat := 102
def c_slices_Sort_int : CFunc := ⟨false, 11, [],
 (.seq
 (.region 0 [0, 2] [
 mv 3 0,
 o 4 (.p (.len (t 3))),
 mv 2 4])
 (.region 0 [] [
 mv 5 0,
 mv 6 2,
 mv 7 2,
 o 8 (.p (.conv .u64 (t 7))),
 o 9 (.e (.call (.func 112) [t 8])),
 o 10 (.e (.call (.func 121) [t 5, .const (.int .i64 0), t 6, t 9]))]))⟩

/-- slices.Index[[]int,int] -/
@[reducible] def n_slices_Index_int : Nat := 103
def c_slices_Index_int_lp0 : CCode :=
 (.seq
 (.region 0 [0, 1, 7, 8, 9] [
 o 9 (.p (.bin .lss (t 8) (t 7)))])
 (.seq
 (.cond (t 9)
 .skip
 (.exit 0))
 (.seq
 (.block 1
 (.seq
 (.region 0 [0, 1, 5, 7, 8] [
 mv 10 8,
 mv 5 10])
 (.seq
 (.region 0 [0, 1, 5, 7, 8, 16] [
 mv 11 1,
 mv 12 0,
 mv 13 5,
 o 14 (.p (.indexAddr 1 (t 12) (t 13))),
 o 15 (.p (.load1 (t 14))),
 o 16 (.p (.bin .eql (t 11) (t 15)))])
 (.cond (t 16)
 (.seq
 (.region 0 [4] [
 mv 17 5,
 mv 4 17])
 .ret)
 .skip))))
 (.region 0 [0, 1, 7, 8] [
 o 18 (.p (.bin .add (t 8) (.const (.int .i64 1)))),
 mv 8 18]))))
def c_slices_Index_int : CFunc := ⟨true, 19, [.tmp 4],
 (.seq
 (.region 0 [0, 1] [
 o 4 (.p (.move (.const (.int .i64 0))))])
 (.seq
 (.seq
 (.region 0 [0, 1, 7, 8] [
 mv 6 0,
 o 7 (.p (.len (t 6))),
 o 8 (.p (.move (.const (.int .i64 0))))])
 (.block 0
 (.loop [0, 1, 7, 8] c_slices_Index_int_lp0)))
 (.seq
 (.region 0 [4] [
 o 4 (.p (.move (.const (.int .i64 (-1)))))])
 .ret)))⟩

/-- (*isohyet/mesh.Mesh).Around$1 -/
@[reducible] def n_Mesh_Around_1 : Nat := 104
def c_Mesh_Around_1_lp0 : CCode :=
 (.seq
 (.seq
 (.region 0 [0, 1, 2, 4, 5, 16] [
 mv 15 5,
 o 16 (.p (.bin .geq (t 15) (.const (.int .i64 0))))])
 (.cond (t 16)
 .skip
 (.exit 0)))
 (.block 1
 (.seq
 (.region 0 [0, 1, 2, 4, 5, 6] [
 o 17 (.p (.load1 (t 1))),
 o 18 (.p (.nilCheck (t 17))),
 o 19 (.p (.fieldAddr 1 (t 18))),
 o 20 (.p (.load1 (t 19))),
 mv 21 5,
 o 22 (.p (.indexAddr 9 (t 20) (t 21))),
 o 23 (.p (.loadN 9 (t 22))),
 o 24 (.p (.load1 (t 2))),
 o 25 (.e (.call (.func 105) [t 23, t 24])),
 mv 6 25])
 (.seq
 (.seq
 (.region 0 [0, 1, 2, 4, 5, 6, 30] [
 mv 26 0,
 mv 27 5,
 mv 28 6,
 o 29 (.e (.call (t 26) [t 27, t 28])),
 o 30 (.p (.un .not (t 29)))])
 (.cond (t 30)
 .ret
 .skip))
 (.seq
 (.region 0 [0, 1, 2, 4, 5] [
 o 31 (.p (.load1 (t 1))),
 o 32 (.p (.nilCheck (t 31))),
 o 33 (.p (.fieldAddr 1 (t 32))),
 o 34 (.p (.load1 (t 33))),
 mv 35 5,
 mv 36 6,
 o 37 (.p (.bin .add (t 36) (.const (.int .i64 1)))),
 o 38 (.p (.bin .rem (t 37) (.const (.int .i64 3)))),
 o 39 (.p (.indexAddr 9 (t 34) (t 35))),
 o 40 (.p (.fieldAddr 3 (t 39))),
 o 41 (.p (.indexAddrA 3 1 (t 40) (t 38))),
 o 42 (.p (.load1 (t 41))),
 mv 5 42])
 (.seq
 (.region 0 [0, 1, 2, 4, 5, 45] [
 mv 43 5,
 mv 44 4,
 o 45 (.p (.bin .eql (t 43) (t 44)))])
 (.cond (t 45)
 .ret
 .skip)))))))
def c_Mesh_Around_1 : CFunc := ⟨false, 46, [],
 (.seq
 (.region 0 [0, 1, 2, 4] [
 o 7 (.p (.load1 (t 1))),
 o 8 (.p (.nilCheck (t 7))),
 o 9 (.p (.fieldAddr 3 (t 8))),
 o 10 (.p (.load1 (t 9))),
 o 11 (.p (.load1 (t 2))),
 o 12 (.p (.indexAddr 1 (t 10) (t 11))),
 o 13 (.p (.load1 (t 12))),
 mv 4 13])
 (.seq
 (.region 0 [0, 1, 2, 4, 5] [
 mv 14 4,
 mv 5 14])
 (.block 0
 (.loop [0, 1, 2, 4, 5] c_Mesh_Around_1_lp0))))⟩

/-- (isohyet/mesh.Tri).place -/
@[reducible] def n_Tri_place : Nat := 105
def c_Tri_place : CFunc := ⟨true, 9, [.tmp 4],
 (.seq
 (.region 1 [1, 2] [
 o 2 (.a 0 (.box (t 0))),
 o 4 (.p (.move (.const (.int .i64 0))))])
 (.seq
 (.region 0 [4] [
 o 5 (.p (.fieldAddr 0 (t 2))),
 o 6 (.p (.sliceArr 3 1 (t 5) none none)),
 mv 7 1,
 o 8 (.e (.call (.func 103) [t 6, t 7])),
 mv 4 8])
 .ret))⟩

/-- isohyet/pred.On -/
@[reducible] def n_pred_On : Nat := 106
def c_pred_On : CFunc := ⟨true, 52, [.tmp 6],
 (.seq
 (.region 3 [3, 4, 5] [
 o 3 (.a 0 (.box (t 0))),
 o 4 (.a 1 (.box (t 1))),
 o 5 (.a 2 (.box (t 2))),
 o 6 (.p (.move (.const (.bool false))))])
 (.seq
 (.region 0 [6] [
 o 7 (.p (.loadN 2 (t 4))),
 o 8 (.p (.loadN 2 (t 5))),
 o 9 (.p (.loadN 2 (t 3))),
 o 10 (.e (.call (.func 65) [t 7, t 8, t 9])),
 o 11 (.p (.bin .eql (t 10) (.const (.int .i64 0)))),
 mv 12 11,
 ⟨some 13, .p (.fieldAddr 0 (t 4)), (some (12, true)), none⟩,
 ⟨some 14, .p (.load1 (t 13)), (some (12, true)), none⟩,
 ⟨some 15, .p (.fieldAddr 0 (t 5)), (some (12, true)), none⟩,
 ⟨some 16, .p (.load1 (t 15)), (some (12, true)), none⟩,
 ⟨some 17, .p (.min [t 14, t 16]), (some (12, true)), none⟩,
 ⟨some 18, .p (.fieldAddr 0 (t 3)), (some (12, true)), none⟩,
 ⟨some 19, .p (.load1 (t 18)), (some (12, true)), none⟩,
 ⟨some 20, .p (.bin .leq (t 17) (t 19)), (some (12, true)), none⟩,
 o 21 (.p (.pick (t 12) (t 20) (.const (.bool false)))),
 mv 22 21,
 ⟨some 23, .p (.fieldAddr 0 (t 3)), (some (22, true)), none⟩,
 ⟨some 24, .p (.load1 (t 23)), (some (22, true)), none⟩,
 ⟨some 25, .p (.fieldAddr 0 (t 4)), (some (22, true)), none⟩,
 ⟨some 26, .p (.load1 (t 25)), (some (22, true)), none⟩,
 ⟨some 27, .p (.fieldAddr 0 (t 5)), (some (22, true)), none⟩,
 ⟨some 28, .p (.load1 (t 27)), (some (22, true)), none⟩,
 ⟨some 29, .p (.max [t 26, t 28]), (some (22, true)), none⟩,
 ⟨some 30, .p (.bin .leq (t 24) (t 29)), (some (22, true)), none⟩,
 o 31 (.p (.pick (t 22) (t 30) (.const (.bool false)))),
 mv 32 31,
 ⟨some 33, .p (.fieldAddr 1 (t 4)), (some (32, true)), none⟩,
 ⟨some 34, .p (.load1 (t 33)), (some (32, true)), none⟩,
 ⟨some 35, .p (.fieldAddr 1 (t 5)), (some (32, true)), none⟩,
 ⟨some 36, .p (.load1 (t 35)), (some (32, true)), none⟩,
 ⟨some 37, .p (.min [t 34, t 36]), (some (32, true)), none⟩,
 ⟨some 38, .p (.fieldAddr 1 (t 3)), (some (32, true)), none⟩,
 ⟨some 39, .p (.load1 (t 38)), (some (32, true)), none⟩,
 ⟨some 40, .p (.bin .leq (t 37) (t 39)), (some (32, true)), none⟩,
 o 41 (.p (.pick (t 32) (t 40) (.const (.bool false)))),
 mv 42 41,
 ⟨some 43, .p (.fieldAddr 1 (t 3)), (some (42, true)), none⟩,
 ⟨some 44, .p (.load1 (t 43)), (some (42, true)), none⟩,
 ⟨some 45, .p (.fieldAddr 1 (t 4)), (some (42, true)), none⟩,
 ⟨some 46, .p (.load1 (t 45)), (some (42, true)), none⟩,
 ⟨some 47, .p (.fieldAddr 1 (t 5)), (some (42, true)), none⟩,
 ⟨some 48, .p (.load1 (t 47)), (some (42, true)), none⟩,
 ⟨some 49, .p (.max [t 46, t 48]), (some (42, true)), none⟩,
 ⟨some 50, .p (.bin .leq (t 44) (t 49)), (some (42, true)), none⟩,
 o 51 (.p (.pick (t 42) (t 50) (.const (.bool false)))),
 mv 6 51])
 .ret))⟩

/-- isohyet/pred.Circle -/
@[reducible] def n_pred_Circle : Nat := 109
def c_pred_Circle : CFunc := ⟨true, 98, [.tmp 8],
 (.seq
 (.region 4 [4, 5, 6, 7] [
 o 4 (.a 0 (.box (t 0))),
 o 5 (.a 1 (.box (t 1))),
 o 6 (.a 2 (.box (t 2))),
 o 7 (.a 3 (.box (t 3))),
 o 8 (.p (.move (.const (.int .i64 0))))])
 (.seq
 (.region 0 [9, 10, 11, 12, 13, 14] [
 o 17 (.p (.fieldAddr 0 (t 4))),
 o 18 (.p (.load1 (t 17))),
 o 19 (.p (.fieldAddr 0 (t 7))),
 o 20 (.p (.load1 (t 19))),
 o 21 (.p (.bin .sub (t 18) (t 20))),
 o 22 (.p (.fieldAddr 1 (t 4))),
 o 23 (.p (.load1 (t 22))),
 o 24 (.p (.fieldAddr 1 (t 7))),
 o 25 (.p (.load1 (t 24))),
 o 26 (.p (.bin .sub (t 23) (t 25))),
 o 27 (.p (.fieldAddr 0 (t 5))),
 o 28 (.p (.load1 (t 27))),
 o 29 (.p (.fieldAddr 0 (t 7))),
 o 30 (.p (.load1 (t 29))),
 o 31 (.p (.bin .sub (t 28) (t 30))),
 o 32 (.p (.fieldAddr 1 (t 5))),
 o 33 (.p (.load1 (t 32))),
 o 34 (.p (.fieldAddr 1 (t 7))),
 o 35 (.p (.load1 (t 34))),
 o 36 (.p (.bin .sub (t 33) (t 35))),
 o 37 (.p (.fieldAddr 0 (t 6))),
 o 38 (.p (.load1 (t 37))),
 o 39 (.p (.fieldAddr 0 (t 7))),
 o 40 (.p (.load1 (t 39))),
 o 41 (.p (.bin .sub (t 38) (t 40))),
 o 42 (.p (.fieldAddr 1 (t 6))),
 o 43 (.p (.load1 (t 42))),
 o 44 (.p (.fieldAddr 1 (t 7))),
 o 45 (.p (.load1 (t 44))),
 o 46 (.p (.bin .sub (t 43) (t 45))),
 mv 9 21,
 mv 10 26,
 mv 11 31,
 mv 12 36,
 mv 13 41,
 mv 14 46])
 (.seq
 (.seq
 (.region 1 [9, 10, 11, 12, 13, 14, 54] [
 mv 47 9,
 mv 48 10,
 mv 49 11,
 mv 50 12,
 mv 51 13,
 mv 52 14,
 o 53 (.a 0 (.buildSlice 1 6 [.int .i64 0] [(0, 1, t 47), (1, 1, t 48), (2, 1, t 49), (3, 1, t 50), (4, 1, t 51), (5, 1, t 52)])),
 o 54 (.e (.call (.func 122) [t 53]))])
 (.cond (t 54)
 (.seq
 (.region 0 [8] [
 mv 55 9,
 mv 56 10,
 mv 57 11,
 mv 58 12,
 mv 59 13,
 mv 60 14,
 o 61 (.e (.call (.func 123) [t 55, t 56, t 57, t 58, t 59, t 60])),
 mv 8 61])
 .ret)
 .skip))
 (.seq
 (.region 0 [9, 10, 11, 12, 13, 14, 15] [
 o 15 (.p (.move (.func 124)))])
 (.seq
 (.region 0 [9, 10, 11, 12, 13, 14, 15, 16] [
 o 16 (.p (.move (.func 127)))])
 (.seq
 (.region 1 [8] [
 mv 62 15,
 mv 63 9,
 mv 64 10,
 o 65 (.e (.call (t 62) [t 63, t 64])),
 mv 66 16,
 mv 67 11,
 mv 68 12,
 mv 69 13,
 mv 70 14,
 o 71 (.e (.call (t 66) [t 67, t 68, t 69, t 70])),
 o 72 (.e (.call (.func 62) [t 65, t 71])),
 mv 73 15,
 mv 74 11,
 mv 75 12,
 o 76 (.e (.call (t 73) [t 74, t 75])),
 mv 77 16,
 mv 78 13,
 mv 79 14,
 mv 80 9,
 mv 81 10,
 o 82 (.e (.call (t 77) [t 78, t 79, t 80, t 81])),
 o 83 (.e (.call (.func 62) [t 76, t 82])),
 mv 84 15,
 mv 85 13,
 mv 86 14,
 o 87 (.e (.call (t 84) [t 85, t 86])),
 mv 88 16,
 mv 89 9,
 mv 90 10,
 mv 91 11,
 mv 92 12,
 o 93 (.e (.call (t 88) [t 89, t 90, t 91, t 92])),
 o 94 (.e (.call (.func 62) [t 87, t 93])),
 o 95 (.a 0 (.buildSlice 2 3 [.bool false, .slice none 0 0] [(0, 2, t 72), (2, 2, t 83), (4, 2, t 94)])),
 o 96 (.e (.call (.func 128) [t 95])),
 o 97 (.e (.call (.func 26) [t 96])),
 mv 8 97])
 .ret))))))⟩

/-- slices.pdqsortCmpFunc[isohyet/mesh.Edge] -/
@[reducible] def n_slices_pdqsortCmpFunc_Edge : Nat := 111
def c_slices_pdqsortCmpFunc_Edge_r0 : CCode :=
 (.seq
 (.seq
 (.region 0 [0, 1, 2, 3, 4, 10, 11, 12, 13, 97] [
 mv 81 1,
 o 82 (.p (.bin .gtr (t 81) (.const (.int .i64 0)))),
 mv 83 82,
 ⟨some 84, .p (.move (t 4)), (some (83, true)), none⟩,
 ⟨some 85, .p (.move (t 0)), (some (83, true)), none⟩,
 ⟨some 86, .p (.move (t 1)), (some (83, true)), none⟩,
 ⟨some 87, .p (.bin .sub (t 86) (.const (.int .i64 1))), (some (83, true)), none⟩,
 ⟨some 88, .p (.indexAddr 4 (t 85) (t 87)), (some (83, true)), none⟩,
 ⟨some 89, .p (.loadN 4 (t 88)), (some (83, true)), none⟩,
 ⟨some 90, .p (.move (t 0)), (some (83, true)), none⟩,
 ⟨some 91, .p (.move (t 13)), (some (83, true)), none⟩,
 ⟨some 92, .p (.indexAddr 4 (t 90) (t 91)), (some (83, true)), none⟩,
 ⟨some 93, .p (.loadN 4 (t 92)), (some (83, true)), none⟩,
 ⟨some 94, .e (.call (t 84) [t 89, t 93]), (some (83, true)), none⟩,
 ⟨some 95, .p (.bin .lss (t 94) (.const (.int .i64 0))), (some (83, true)), none⟩,
 ⟨some 96, .p (.un .not (t 95)), (some (83, true)), none⟩,
 o 97 (.p (.pick (t 83) (t 96) (.const (.bool false))))])
 (.cond (t 97)
 (.seq
 (.region 0 [0, 2, 3, 4, 10, 11, 15] [
 mv 98 0,
 mv 99 1,
 mv 100 2,
 mv 101 13,
 mv 102 4,
 o 103 (.e (.call (.func 135) [t 98, t 99, t 100, t 101, t 102])),
 mv 15 103])
 (.seq
 (.region 0 [0, 1, 2, 3, 4, 10, 11] [
 mv 104 15,
 mv 1 104])
 (.exit 1)))
 .skip))
 (.seq
 (.region 0 [0, 1, 2, 3, 4, 12, 16, 17] [
 mv 106 0,
 mv 107 1,
 mv 108 2,
 mv 109 13,
 mv 110 4,
 o 111 (.e (.call (.func 136) [t 106, t 107, t 108, t 109, t 110])),
 mv 105 111,
 o 112 (.p (.extract (t 105) 0)),
 o 113 (.p (.extract (t 105) 1)),
 mv 16 112,
 mv 17 113])
 (.seq
 (.region 0 [0, 1, 2, 3, 4, 11, 12, 16] [
 mv 114 17,
 mv 11 114])
 (.seq
 (.region 0 [0, 1, 2, 3, 4, 11, 12, 16, 18, 19] [
 mv 115 16,
 mv 116 1,
 o 117 (.p (.bin .sub (t 115) (t 116))),
 mv 118 2,
 mv 119 16,
 o 120 (.p (.bin .sub (t 118) (t 119))),
 mv 18 117,
 mv 19 120])
 (.seq
 (.region 0 [0, 1, 2, 3, 4, 11, 16, 18, 19, 20] [
 mv 121 12,
 o 122 (.p (.bin .quo (t 121) (.const (.int .i64 8)))),
 mv 20 122])
 (.seq
 (.region 0 [0, 1, 2, 3, 4, 11, 16, 18, 19, 20, 125] [
 mv 123 18,
 mv 124 19,
 o 125 (.p (.bin .lss (t 123) (t 124)))])
 (.cond (t 125)
 (.seq
 (.region 0 [0, 1, 2, 3, 4, 10, 11, 16] [
 mv 126 18,
 mv 127 20,
 o 128 (.p (.bin .geq (t 126) (t 127))),
 mv 10 128])
 (.seq
 (.region 0 [0, 2, 3, 4, 10, 11, 16] [
 mv 129 0,
 mv 130 1,
 mv 131 16,
 mv 132 3,
 mv 133 4,
 o 134 (.e (.call (.func 111) [t 129, t 130, t 131, t 132, t 133]))])
 (.region 0 [0, 1, 2, 3, 4, 10, 11] [
 mv 135 16,
 o 136 (.p (.bin .add (t 135) (.const (.int .i64 1)))),
 mv 1 136])))
 (.seq
 (.region 0 [0, 1, 2, 3, 4, 10, 11, 16] [
 mv 137 19,
 mv 138 20,
 o 139 (.p (.bin .geq (t 137) (t 138))),
 mv 10 139])
 (.seq
 (.region 0 [0, 1, 3, 4, 10, 11, 16] [
 mv 140 0,
 mv 141 16,
 o 142 (.p (.bin .add (t 141) (.const (.int .i64 1)))),
 mv 143 2,
 mv 144 3,
 mv 145 4,
 o 146 (.e (.call (.func 111) [t 140, t 142, t 143, t 144, t 145]))])
 (.region 0 [0, 1, 2, 3, 4, 10, 11] [
 mv 147 16,
 mv 2 147]))))))))))
def c_slices_pdqsortCmpFunc_Edge_r1 : CCode :=
 (.seq
 (.seq
 (.region 0 [0, 1, 2, 3, 4, 10, 11, 12, 13, 75] [
 mv 68 10,
 mv 69 68,
 ⟨some 70, .p (.move (t 11)), (some (69, true)), none⟩,
 o 71 (.p (.pick (t 69) (t 70) (.const (.bool false)))),
 mv 72 71,
 ⟨some 73, .p (.move (t 14)), (some (72, true)), none⟩,
 ⟨some 74, .p (.bin .eql (t 73) (.const (.int .i64 1))), (some (72, true)), none⟩,
 o 75 (.p (.pick (t 72) (t 74) (.const (.bool false))))])
 (.cond (t 75)
 (.seq
 (.region 0 [0, 1, 2, 3, 4, 10, 11, 12, 13, 80] [
 mv 76 0,
 mv 77 1,
 mv 78 2,
 mv 79 4,
 o 80 (.e (.call (.func 134) [t 76, t 77, t 78, t 79]))])
 (.cond (t 80)
 .ret
 .skip))
 .skip))
 c_slices_pdqsortCmpFunc_Edge_r0)
def c_slices_pdqsortCmpFunc_Edge_r2 : CCode :=
 (.seq
 (.region 0 [0, 1, 2, 3, 4, 10, 11, 12, 13, 14] [
 mv 48 0,
 mv 49 1,
 mv 50 2,
 mv 51 4,
 o 52 (.e (.call (.func 132) [t 48, t 49, t 50, t 51])),
 mv 47 52,
 o 53 (.p (.extract (t 47) 0)),
 o 54 (.p (.extract (t 47) 1)),
 mv 13 53,
 mv 14 54])
 (.seq
 (.seq
 (.region 0 [0, 1, 2, 3, 4, 10, 11, 12, 13, 14, 56] [
 mv 55 14,
 o 56 (.p (.bin .eql (t 55) (.const (.int .i64 2))))])
 (.cond (t 56)
 (.seq
 (.region 0 [0, 1, 2, 3, 4, 10, 11, 12, 13] [
 mv 57 0,
 mv 58 1,
 mv 59 2,
 mv 60 4,
 o 61 (.e (.call (.func 133) [t 57, t 58, t 59, t 60]))])
 (.seq
 (.region 0 [0, 1, 2, 3, 4, 10, 11, 12, 13] [
 mv 62 2,
 o 63 (.p (.bin .sub (t 62) (.const (.int .i64 1)))),
 mv 64 13,
 mv 65 1,
 o 66 (.p (.bin .sub (t 64) (t 65))),
 o 67 (.p (.bin .sub (t 63) (t 66))),
 mv 13 67])
 (.region 0 [0, 1, 2, 3, 4, 10, 11, 12, 13, 14] [
 o 14 (.p (.move (.const (.int .i64 1))))])))
 .skip))
 c_slices_pdqsortCmpFunc_Edge_r1))
def c_slices_pdqsortCmpFunc_Edge_lp0 : CCode :=
 (.block 1
 (.seq
 (.region 0 [0, 1, 2, 3, 4, 10, 11, 12] [
 mv 21 2,
 mv 22 1,
 o 23 (.p (.bin .sub (t 21) (t 22))),
 mv 12 23])
 (.seq
 (.seq
 (.region 0 [0, 1, 2, 3, 4, 10, 11, 12, 25] [
 mv 24 12,
 o 25 (.p (.bin .leq (t 24) (.const (.int .i64 12))))])
 (.cond (t 25)
 (.seq
 (.region 0 [] [
 mv 26 0,
 mv 27 1,
 mv 28 2,
 mv 29 4,
 o 30 (.e (.call (.func 129) [t 26, t 27, t 28, t 29]))])
 .ret)
 .skip))
 (.seq
 (.seq
 (.region 0 [0, 1, 2, 3, 4, 10, 11, 12, 32] [
 mv 31 3,
 o 32 (.p (.bin .eql (t 31) (.const (.int .i64 0))))])
 (.cond (t 32)
 (.seq
 (.region 0 [] [
 mv 33 0,
 mv 34 1,
 mv 35 2,
 mv 36 4,
 o 37 (.e (.call (.func 130) [t 33, t 34, t 35, t 36]))])
 .ret)
 .skip))
 (.seq
 (.seq
 (.region 0 [0, 1, 2, 3, 4, 10, 11, 12, 39] [
 mv 38 10,
 o 39 (.p (.un .not (t 38)))])
 (.cond (t 39)
 (.seq
 (.region 0 [0, 1, 2, 3, 4, 10, 11, 12] [
 mv 40 0,
 mv 41 1,
 mv 42 2,
 mv 43 4,
 o 44 (.e (.call (.func 131) [t 40, t 41, t 42, t 43]))])
 (.region 0 [0, 1, 2, 3, 4, 10, 11, 12] [
 mv 45 3,
 o 46 (.p (.bin .sub (t 45) (.const (.int .i64 1)))),
 mv 3 46]))
 .skip))
 c_slices_pdqsortCmpFunc_Edge_r2)))))
def c_slices_pdqsortCmpFunc_Edge : CFunc := ⟨false, 148, [],
 (.seq
 (.region 0 [0, 1, 2, 3, 4, 10] [
 o 10 (.p (.move (.const (.bool true))))])
 (.seq
 (.region 0 [0, 1, 2, 3, 4, 10, 11] [
 o 11 (.p (.move (.const (.bool true))))])
 (.block 0
 (.loop [0, 1, 2, 3, 4, 10, 11] c_slices_pdqsortCmpFunc_Edge_lp0))))⟩

/-- math/bits.Len -/
@[reducible] def n_bits_Len : Nat := 112
def c_bits_Len : CFunc := ⟨true, 8, [.tmp 2],
 (.seq
 (.region 0 [0] [
 o 2 (.p (.move (.const (.int .i64 0))))])
 (.seq
 (.cond (.const (.bool false))
 (.seq
 (.region 0 [2] [
 mv 3 0,
 o 4 (.p (.conv .u32 (t 3))),
 o 5 (.e (.call (.func 137) [t 4])),
 mv 2 5])
 .ret)
 .skip)
 (.seq
 (.region 0 [2] [
 mv 6 0,
 o 7 (.e (.call (.func 87) [t 6])),
 mv 2 7])
 .ret)))⟩

/-- isohyet/num.Add -/
@[reducible] def n_num_Add : Nat := 113
def c_num_Add : CFunc := ⟨true, 40, [.cellN 4 2],
 (.seq
 (.region 3 [2, 3, 4] [
 o 2 (.a 0 (.box (t 0))),
 o 3 (.a 1 (.box (t 1))),
 o 4 (.a 2 (.alloc [.bool false, .slice none 0 0]))])
 (.seq
 (.seq
 (.region 0 [2, 3, 4, 9] [
 o 5 (.p (.fieldAddr 0 (t 2))),
 o 6 (.p (.load1 (t 5))),
 o 7 (.p (.fieldAddr 0 (t 3))),
 o 8 (.p (.load1 (t 7))),
 o 9 (.p (.eq false .bool (t 6) (t 8)))])
 (.cond (t 9)
 (.seq
 (.region 0 [4] [
 o 10 (.p (.fieldAddr 0 (t 2))),
 l 11 0 1 (.p (.load1 (t 10))),
 o 12 (.p (.fieldAddr 1 (t 2))),
 o 13 (.p (.load1 (t 12))),
 o 14 (.p (.fieldAddr 1 (t 3))),
 o 15 (.p (.load1 (t 14))),
 o 16 (.e (.call (.func 28) [t 13, t 15])),
 o 17 (.e (.call (.func 13) [t 11, t 16])),
 p (.e (.store 2 (t 4) (t 17)))])
 .ret)
 .skip))
 (.seq
 (.seq
 (.region 0 [2, 3, 4, 23] [
 o 18 (.p (.fieldAddr 1 (t 2))),
 o 19 (.p (.load1 (t 18))),
 o 20 (.p (.fieldAddr 1 (t 3))),
 o 21 (.p (.load1 (t 20))),
 o 22 (.e (.call (.func 88) [t 19, t 21])),
 o 23 (.p (.bin .geq (t 22) (.const (.int .i64 0))))])
 (.cond (t 23)
 (.seq
 (.region 0 [4] [
 o 24 (.p (.fieldAddr 0 (t 2))),
 l 25 0 1 (.p (.load1 (t 24))),
 o 26 (.p (.fieldAddr 1 (t 2))),
 o 27 (.p (.load1 (t 26))),
 o 28 (.p (.fieldAddr 1 (t 3))),
 o 29 (.p (.load1 (t 28))),
 o 30 (.e (.call (.func 138) [t 27, t 29])),
 o 31 (.e (.call (.func 13) [t 25, t 30])),
 p (.e (.store 2 (t 4) (t 31)))])
 .ret)
 .skip))
 (.seq
 (.region 0 [4] [
 o 32 (.p (.fieldAddr 0 (t 3))),
 l 33 0 1 (.p (.load1 (t 32))),
 o 34 (.p (.fieldAddr 1 (t 3))),
 o 35 (.p (.load1 (t 34))),
 o 36 (.p (.fieldAddr 1 (t 2))),
 o 37 (.p (.load1 (t 36))),
 o 38 (.e (.call (.func 138) [t 35, t 37])),
 o 39 (.e (.call (.func 13) [t 33, t 38])),
 p (.e (.store 2 (t 4) (t 39)))])
 .ret))))⟩

/-- isohyet/num.Neg -/
@[reducible] def n_num_Neg : Nat := 114
def c_num_Neg : CFunc := ⟨true, 9, [.cellN 2 2],
 (.seq
 (.region 2 [1, 2] [
 o 1 (.a 0 (.box (t 0))),
 o 2 (.a 1 (.alloc [.bool false, .slice none 0 0]))])
 (.seq
 (.region 0 [2] [
 o 3 (.p (.fieldAddr 0 (t 1))),
 o 4 (.p (.load1 (t 3))),
 o 5 (.p (.un .not (t 4))),
 o 6 (.p (.fieldAddr 1 (t 1))),
 o 7 (.p (.load1 (t 6))),
 o 8 (.e (.call (.func 13) [t 5, t 7])),
 p (.e (.store 2 (t 2) (t 8)))])
 .ret))⟩

/-- math/bits.Div64 -/
@[reducible] def n_bits_Div64 : Nat := 115
def c_bits_Div64_lp0 : CCode :=
 (.seq
 (.seq
 (.region 0 [2, 8, 9, 10, 11, 13, 14, 15, 16, 78] [
 mv 67 15,
 o 68 (.p (.bin .geq (t 67) (.const (.int .u64 4294967296)))),
 mv 69 68,
 ⟨some 70, .p (.move (t 15)), (some (69, false)), none⟩,
 ⟨some 71, .p (.move (t 10)), (some (69, false)), none⟩,
 ⟨some 72, .p (.bin .mul (t 70) (t 71)), (some (69, false)), none⟩,
 ⟨some 73, .p (.move (t 16)), (some (69, false)), none⟩,
 ⟨some 74, .p (.bin .mul (.const (.int .u64 4294967296)) (t 73)), (some (69, false)), none⟩,
 ⟨some 75, .p (.move (t 13)), (some (69, false)), none⟩,
 ⟨some 76, .p (.bin .add (t 74) (t 75)), (some (69, false)), none⟩,
 ⟨some 77, .p (.bin .gtr (t 72) (t 76)), (some (69, false)), none⟩,
 o 78 (.p (.pick (t 69) (.const (.bool true)) (t 77)))])
 (.cond (t 78)
 .skip
 (.exit 0)))
 (.block 1
 (.seq
 (.region 0 [2, 8, 9, 10, 11, 13, 14, 15, 16] [
 mv 79 15,
 o 80 (.p (.bin .sub (t 79) (.const (.int .u64 1)))),
 mv 15 80])
 (.seq
 (.region 0 [2, 8, 9, 10, 11, 13, 14, 15, 16] [
 mv 81 16,
 mv 82 9,
 o 83 (.p (.bin .add (t 81) (t 82))),
 mv 16 83])
 (.seq
 (.region 0 [2, 8, 9, 10, 11, 13, 14, 15, 16, 85] [
 mv 84 16,
 o 85 (.p (.bin .geq (t 84) (.const (.int .u64 4294967296))))])
 (.cond (t 85)
 (.exit 0)
 .skip))))))
def c_bits_Div64_lp1 : CCode :=
 (.seq
 (.seq
 (.region 0 [2, 8, 9, 10, 14, 15, 16, 17, 18, 113] [
 mv 102 18,
 o 103 (.p (.bin .geq (t 102) (.const (.int .u64 4294967296)))),
 mv 104 103,
 ⟨some 105, .p (.move (t 18)), (some (104, false)), none⟩,
 ⟨some 106, .p (.move (t 10)), (some (104, false)), none⟩,
 ⟨some 107, .p (.bin .mul (t 105) (t 106)), (some (104, false)), none⟩,
 ⟨some 108, .p (.move (t 16)), (some (104, false)), none⟩,
 ⟨some 109, .p (.bin .mul (.const (.int .u64 4294967296)) (t 108)), (some (104, false)), none⟩,
 ⟨some 110, .p (.move (t 14)), (some (104, false)), none⟩,
 ⟨some 111, .p (.bin .add (t 109) (t 110)), (some (104, false)), none⟩,
 ⟨some 112, .p (.bin .gtr (t 107) (t 111)), (some (104, false)), none⟩,
 o 113 (.p (.pick (t 104) (.const (.bool true)) (t 112)))])
 (.cond (t 113)
 .skip
 (.exit 2)))
 (.block 3
 (.seq
 (.region 0 [2, 8, 9, 10, 14, 15, 16, 17, 18] [
 mv 114 18,
 o 115 (.p (.bin .sub (t 114) (.const (.int .u64 1)))),
 mv 18 115])
 (.seq
 (.region 0 [2, 8, 9, 10, 14, 15, 16, 17, 18] [
 mv 116 16,
 mv 117 9,
 o 118 (.p (.bin .add (t 116) (t 117))),
 mv 16 118])
 (.seq
 (.region 0 [2, 8, 9, 10, 14, 15, 16, 17, 18, 120] [
 mv 119 16,
 o 120 (.p (.bin .geq (t 119) (.const (.int .u64 4294967296))))])
 (.cond (t 120)
 (.exit 2)
 .skip))))))
def c_bits_Div64_r0 : CCode :=
 (.seq
 (.seq
 (.region 0 [0, 1, 2, 27] [
 mv 26 0,
 o 27 (.p (.bin .eql (t 26) (.const (.int .u64 0))))])
 (.cond (t 27)
 (.seq
 (.region 0 [6, 7] [
 mv 28 1,
 mv 29 2,
 o 30 (.p (.bin .quo (t 28) (t 29))),
 mv 31 1,
 mv 32 2,
 o 33 (.p (.bin .rem (t 31) (t 32))),
 mv 6 30,
 mv 7 33])
 .ret)
 .skip))
 (.seq
 (.region 0 [0, 1, 2, 8] [
 mv 34 2,
 o 35 (.e (.call (.func 139) [t 34])),
 o 36 (.p (.conv .u64 (t 35))),
 mv 8 36])
 (.seq
 (.region 0 [0, 1, 2, 8] [
 mv 37 2,
 mv 38 8,
 o 39 (.p (.bin .shl (t 37) (t 38))),
 mv 2 39])
 (.seq
 (.region 0 [0, 1, 2, 8, 9] [
 mv 40 2,
 o 41 (.p (.bin .shr (t 40) (.const (.int .u64 32)))),
 mv 9 41])
 (.seq
 (.region 0 [0, 1, 2, 8, 9, 10] [
 mv 42 2,
 o 43 (.p (.bin .and (t 42) (.const (.int .u64 4294967295)))),
 mv 10 43])
 (.seq
 (.region 0 [1, 2, 8, 9, 10, 11] [
 mv 44 0,
 mv 45 8,
 o 46 (.p (.bin .shl (t 44) (t 45))),
 mv 47 1,
 mv 48 8,
 o 49 (.p (.bin .sub (.const (.int .u64 64)) (t 48))),
 o 50 (.p (.bin .shr (t 47) (t 49))),
 o 51 (.p (.bin .or (t 46) (t 50))),
 mv 11 51])
 (.seq
 (.region 0 [2, 8, 9, 10, 11, 12] [
 mv 52 1,
 mv 53 8,
 o 54 (.p (.bin .shl (t 52) (t 53))),
 mv 12 54])
 (.seq
 (.region 0 [2, 8, 9, 10, 11, 12, 13] [
 mv 55 12,
 o 56 (.p (.bin .shr (t 55) (.const (.int .u64 32)))),
 mv 13 56])
 (.seq
 (.region 0 [2, 8, 9, 10, 11, 13, 14] [
 mv 57 12,
 o 58 (.p (.bin .and (t 57) (.const (.int .u64 4294967295)))),
 mv 14 58])
 (.seq
 (.region 0 [2, 8, 9, 10, 11, 13, 14, 15] [
 mv 59 11,
 mv 60 9,
 o 61 (.p (.bin .quo (t 59) (t 60))),
 mv 15 61])
 (.seq
 (.region 0 [2, 8, 9, 10, 11, 13, 14, 15, 16] [
 mv 62 11,
 mv 63 15,
 mv 64 9,
 o 65 (.p (.bin .mul (t 63) (t 64))),
 o 66 (.p (.bin .sub (t 62) (t 65))),
 mv 16 66])
 (.seq
 (.block 0
 (.loop [2, 8, 9, 10, 11, 13, 14, 15, 16] c_bits_Div64_lp0))
 (.seq
 (.region 0 [2, 8, 9, 10, 14, 15, 17] [
 mv 86 11,
 o 87 (.p (.bin .mul (t 86) (.const (.int .u64 4294967296)))),
 mv 88 13,
 o 89 (.p (.bin .add (t 87) (t 88))),
 mv 90 15,
 mv 91 2,
 o 92 (.p (.bin .mul (t 90) (t 91))),
 o 93 (.p (.bin .sub (t 89) (t 92))),
 mv 17 93])
 (.seq
 (.region 0 [2, 8, 9, 10, 14, 15, 17, 18] [
 mv 94 17,
 mv 95 9,
 o 96 (.p (.bin .quo (t 94) (t 95))),
 mv 18 96])
 (.seq
 (.region 0 [2, 8, 9, 10, 14, 15, 16, 17, 18] [
 mv 97 17,
 mv 98 18,
 mv 99 9,
 o 100 (.p (.bin .mul (t 98) (t 99))),
 o 101 (.p (.bin .sub (t 97) (t 100))),
 mv 16 101])
 (.seq
 (.block 2
 (.loop [2, 8, 9, 10, 14, 15, 16, 17, 18] c_bits_Div64_lp1))
 (.seq
 (.region 0 [6, 7] [
 mv 121 15,
 o 122 (.p (.bin .mul (t 121) (.const (.int .u64 4294967296)))),
 mv 123 18,
 o 124 (.p (.bin .add (t 122) (t 123))),
 mv 125 17,
 o 126 (.p (.bin .mul (t 125) (.const (.int .u64 4294967296)))),
 mv 127 14,
 o 128 (.p (.bin .add (t 126) (t 127))),
 mv 129 18,
 mv 130 2,
 o 131 (.p (.bin .mul (t 129) (t 130))),
 o 132 (.p (.bin .sub (t 128) (t 131))),
 mv 133 8,
 o 134 (.p (.bin .shr (t 132) (t 133))),
 mv 6 124,
 mv 7 134])
 .ret)))))))))))))))))
def c_bits_Div64_r1 : CCode :=
 (.seq
 (.seq
 (.region 0 [0, 1, 2, 24] [
 mv 22 2,
 mv 23 0,
 o 24 (.p (.bin .leq (t 22) (t 23)))])
 (.cond (t 24)
 (.region 0 [0, 1, 2] [
 o 25 (.p (.load1 (.const (.chan (some 1))))),
 p (.p (.fail))])
 .skip))
 c_bits_Div64_r0)
def c_bits_Div64 : CFunc := ⟨true, 135, [.tmp 6, .tmp 7],
 (.seq
 (.region 0 [0, 1, 2] [
 o 6 (.p (.move (.const (.int .u64 0)))),
 o 7 (.p (.move (.const (.int .u64 0))))])
 (.seq
 (.seq
 (.region 0 [0, 1, 2, 20] [
 mv 19 2,
 o 20 (.p (.bin .eql (t 19) (.const (.int .u64 0))))])
 (.cond (t 20)
 (.region 0 [0, 1, 2] [
 o 21 (.p (.load1 (.const (.chan (some 0))))),
 p (.p (.fail))])
 .skip))
 c_bits_Div64_r1))⟩

/-- math/bits.Mul64 -/
@[reducible] def n_bits_Mul64 : Nat := 116
def c_bits_Mul64 : CFunc := ⟨true, 51, [.tmp 4, .tmp 5],
 (.seq
 (.region 0 [0, 1] [
 o 4 (.p (.move (.const (.int .u64 0)))),
 o 5 (.p (.move (.const (.int .u64 0))))])
 (.seq
 (.region 0 [0, 1, 6] [
 mv 14 0,
 o 15 (.p (.bin .and (t 14) (.const (.int .u64 4294967295)))),
 mv 6 15])
 (.seq
 (.region 0 [0, 1, 6, 7] [
 mv 16 0,
 o 17 (.p (.bin .shr (t 16) (.const (.int .u64 32)))),
 mv 7 17])
 (.seq
 (.region 0 [0, 1, 6, 7, 8] [
 mv 18 1,
 o 19 (.p (.bin .and (t 18) (.const (.int .u64 4294967295)))),
 mv 8 19])
 (.seq
 (.region 0 [0, 1, 6, 7, 8, 9] [
 mv 20 1,
 o 21 (.p (.bin .shr (t 20) (.const (.int .u64 32)))),
 mv 9 21])
 (.seq
 (.region 0 [0, 1, 6, 7, 8, 9, 10] [
 mv 22 6,
 mv 23 8,
 o 24 (.p (.bin .mul (t 22) (t 23))),
 mv 10 24])
 (.seq
 (.region 0 [0, 1, 6, 7, 9, 11] [
 mv 25 7,
 mv 26 8,
 o 27 (.p (.bin .mul (t 25) (t 26))),
 mv 28 10,
 o 29 (.p (.bin .shr (t 28) (.const (.int .u64 32)))),
 o 30 (.p (.bin .add (t 27) (t 29))),
 mv 11 30])
 (.seq
 (.region 0 [0, 1, 6, 7, 9, 11, 12] [
 mv 31 11,
 o 32 (.p (.bin .and (t 31) (.const (.int .u64 4294967295)))),
 mv 12 32])
 (.seq
 (.region 0 [0, 1, 6, 7, 9, 12, 13] [
 mv 33 11,
 o 34 (.p (.bin .shr (t 33) (.const (.int .u64 32)))),
 mv 13 34])
 (.seq
 (.region 0 [0, 1, 7, 9, 12, 13] [
 mv 35 12,
 mv 36 6,
 mv 37 9,
 o 38 (.p (.bin .mul (t 36) (t 37))),
 o 39 (.p (.bin .add (t 35) (t 38))),
 mv 12 39])
 (.seq
 (.region 0 [0, 1, 4] [
 mv 40 7,
 mv 41 9,
 o 42 (.p (.bin .mul (t 40) (t 41))),
 mv 43 13,
 o 44 (.p (.bin .add (t 42) (t 43))),
 mv 45 12,
 o 46 (.p (.bin .shr (t 45) (.const (.int .u64 32)))),
 o 47 (.p (.bin .add (t 44) (t 46))),
 mv 4 47])
 (.seq
 (.region 0 [4, 5] [
 mv 48 0,
 mv 49 1,
 o 50 (.p (.bin .mul (t 48) (t 49))),
 mv 5 50])
 .ret))))))))))))⟩

@[reducible] def n_bits_Sub64 : Nat := 117
/-- isohyet/wide.minus -/
@[reducible] def n_wide_minus : Nat := 118
def c_wide_minus : CFunc := ⟨true, 7, [.tmp 2],
 (.seq
 (.region 1 [1] [
 o 1 (.a 0 (.box (t 0))),
 o 2 (.p (.move (.const (.bool false))))])
 (.seq
 (.region 0 [2] [
 o 3 (.p (.fieldAddr 0 (t 1))),
 o 4 (.p (.load1 (t 3))),
 o 5 (.p (.bin .shr (t 4) (.const (.int .u64 63)))),
 o 6 (.p (.bin .eql (t 5) (.const (.int .u64 1)))),
 mv 2 6])
 .ret))⟩

/-- isohyet/wide.Det -/
@[reducible] def n_wide_Det : Nat := 119
def c_wide_Det : CFunc := ⟨true, 22, [.cellN 8 2],
 (.seq
 (.region 1 [0, 1, 2, 3, 8] [
 o 8 (.a 0 (.alloc [.int .u64 0, .int .u64 0]))])
 (.seq
 (.region 1 [8, 9] [
 mv 12 0,
 mv 13 3,
 o 14 (.e (.call (.func 126) [t 12, t 13])),
 mv 15 1,
 mv 16 2,
 o 17 (.e (.call (.func 126) [t 15, t 16])),
 o 18 (.e (.call (.func 140) [t 14, t 17])),
 mv 11 18,
 o 19 (.p (.extract (t 11) 0)),
 o 20 (.p (.extract (t 11) 1)),
 o 9 (.a 0 (.alloc [.int .u64 0, .int .u64 0])),
 p (.e (.store 2 (t 9) (t 19))),
 mv 10 20])
 (.seq
 (.region 0 [8] [
 o 21 (.p (.loadN 2 (t 9))),
 p (.e (.store 2 (t 8) (t 21)))])
 .ret)))⟩

/-- isohyet/pred.Between -/
@[reducible] def n_pred_Between : Nat := 120
def c_pred_Between : CFunc := ⟨true, 21, [.tmp 6],
 (.seq
 (.region 3 [3, 4, 5] [
 o 3 (.a 0 (.box (t 0))),
 o 4 (.a 1 (.box (t 1))),
 o 5 (.a 2 (.box (t 2))),
 o 6 (.p (.move (.const (.bool false))))])
 (.seq
 (.region 0 [6] [
 o 7 (.p (.loadN 2 (t 3))),
 o 8 (.p (.loadN 2 (t 4))),
 o 9 (.p (.eq true (.agg [true, true]) (t 7) (t 8))),
 mv 10 9,
 ⟨some 11, .p (.loadN 2 (t 3)), (some (10, true)), none⟩,
 ⟨some 12, .p (.loadN 2 (t 5)), (some (10, true)), none⟩,
 ⟨some 13, .p (.eq true (.agg [true, true]) (t 11) (t 12)), (some (10, true)), none⟩,
 o 14 (.p (.pick (t 10) (t 13) (.const (.bool false)))),
 mv 15 14,
 ⟨some 16, .p (.loadN 2 (t 3)), (some (15, true)), none⟩,
 ⟨some 17, .p (.loadN 2 (t 4)), (some (15, true)), none⟩,
 ⟨some 18, .p (.loadN 2 (t 5)), (some (15, true)), none⟩,
 ⟨some 19, .e (.call (.func 106) [t 16, t 17, t 18]), (some (15, true)), none⟩,
 o 20 (.p (.pick (t 15) (t 19) (.const (.bool false)))),
 mv 6 20])
 .ret))⟩

/-- slices.pdqsortOrdered[int] -/
@[reducible] def n_slices_pdqsortOrdered_int : Nat := 121
def c_slices_pdqsortOrdered_int_r0 : CCode :=
 (.seq
 (.seq
 (.region 0 [0, 1, 2, 3, 8, 9, 10, 11, 87] [
 mv 73 1,
 o 74 (.p (.bin .gtr (t 73) (.const (.int .i64 0)))),
 mv 75 74,
 ⟨some 76, .p (.move (t 0)), (some (75, true)), none⟩,
 ⟨some 77, .p (.move (t 1)), (some (75, true)), none⟩,
 ⟨some 78, .p (.bin .sub (t 77) (.const (.int .i64 1))), (some (75, true)), none⟩,
 ⟨some 79, .p (.indexAddr 1 (t 76) (t 78)), (some (75, true)), none⟩,
 ⟨some 80, .p (.load1 (t 79)), (some (75, true)), none⟩,
 ⟨some 81, .p (.move (t 0)), (some (75, true)), none⟩,
 ⟨some 82, .p (.move (t 11)), (some (75, true)), none⟩,
 ⟨some 83, .p (.indexAddr 1 (t 81) (t 82)), (some (75, true)), none⟩,
 ⟨some 84, .p (.load1 (t 83)), (some (75, true)), none⟩,
 ⟨some 85, .e (.call (.func 147) [t 80, t 84]), (some (75, true)), none⟩,
 ⟨some 86, .p (.un .not (t 85)), (some (75, true)), none⟩,
 o 87 (.p (.pick (t 75) (t 86) (.const (.bool false))))])
 (.cond (t 87)
 (.seq
 (.region 0 [0, 2, 3, 8, 9, 13] [
 mv 88 0,
 mv 89 1,
 mv 90 2,
 mv 91 11,
 o 92 (.e (.call (.func 148) [t 88, t 89, t 90, t 91])),
 mv 13 92])
 (.seq
 (.region 0 [0, 1, 2, 3, 8, 9] [
 mv 93 13,
 mv 1 93])
 (.exit 1)))
 .skip))
 (.seq
 (.region 0 [0, 1, 2, 3, 10, 14, 15] [
 mv 95 0,
 mv 96 1,
 mv 97 2,
 mv 98 11,
 o 99 (.e (.call (.func 149) [t 95, t 96, t 97, t 98])),
 mv 94 99,
 o 100 (.p (.extract (t 94) 0)),
 o 101 (.p (.extract (t 94) 1)),
 mv 14 100,
 mv 15 101])
 (.seq
 (.region 0 [0, 1, 2, 3, 9, 10, 14] [
 mv 102 15,
 mv 9 102])
 (.seq
 (.region 0 [0, 1, 2, 3, 9, 10, 14, 16, 17] [
 mv 103 14,
 mv 104 1,
 o 105 (.p (.bin .sub (t 103) (t 104))),
 mv 106 2,
 mv 107 14,
 o 108 (.p (.bin .sub (t 106) (t 107))),
 mv 16 105,
 mv 17 108])
 (.seq
 (.region 0 [0, 1, 2, 3, 9, 14, 16, 17, 18] [
 mv 109 10,
 o 110 (.p (.bin .quo (t 109) (.const (.int .i64 8)))),
 mv 18 110])
 (.seq
 (.region 0 [0, 1, 2, 3, 9, 14, 16, 17, 18, 113] [
 mv 111 16,
 mv 112 17,
 o 113 (.p (.bin .lss (t 111) (t 112)))])
 (.cond (t 113)
 (.seq
 (.region 0 [0, 1, 2, 3, 8, 9, 14] [
 mv 114 16,
 mv 115 18,
 o 116 (.p (.bin .geq (t 114) (t 115))),
 mv 8 116])
 (.seq
 (.region 0 [0, 2, 3, 8, 9, 14] [
 mv 117 0,
 mv 118 1,
 mv 119 14,
 mv 120 3,
 o 121 (.e (.call (.func 121) [t 117, t 118, t 119, t 120]))])
 (.region 0 [0, 1, 2, 3, 8, 9] [
 mv 122 14,
 o 123 (.p (.bin .add (t 122) (.const (.int .i64 1)))),
 mv 1 123])))
 (.seq
 (.region 0 [0, 1, 2, 3, 8, 9, 14] [
 mv 124 17,
 mv 125 18,
 o 126 (.p (.bin .geq (t 124) (t 125))),
 mv 8 126])
 (.seq
 (.region 0 [0, 1, 3, 8, 9, 14] [
 mv 127 0,
 mv 128 14,
 o 129 (.p (.bin .add (t 128) (.const (.int .i64 1)))),
 mv 130 2,
 mv 131 3,
 o 132 (.e (.call (.func 121) [t 127, t 129, t 130, t 131]))])
 (.region 0 [0, 1, 2, 3, 8, 9] [
 mv 133 14,
 mv 2 133]))))))))))
def c_slices_pdqsortOrdered_int_r1 : CCode :=
 (.seq
 (.seq
 (.region 0 [0, 1, 2, 3, 8, 9, 10, 11, 68] [
 mv 61 8,
 mv 62 61,
 ⟨some 63, .p (.move (t 9)), (some (62, true)), none⟩,
 o 64 (.p (.pick (t 62) (t 63) (.const (.bool false)))),
 mv 65 64,
 ⟨some 66, .p (.move (t 12)), (some (65, true)), none⟩,
 ⟨some 67, .p (.bin .eql (t 66) (.const (.int .i64 1))), (some (65, true)), none⟩,
 o 68 (.p (.pick (t 65) (t 67) (.const (.bool false))))])
 (.cond (t 68)
 (.seq
 (.region 0 [0, 1, 2, 3, 8, 9, 10, 11, 72] [
 mv 69 0,
 mv 70 1,
 mv 71 2,
 o 72 (.e (.call (.func 146) [t 69, t 70, t 71]))])
 (.cond (t 72)
 .ret
 .skip))
 .skip))
 c_slices_pdqsortOrdered_int_r0)
def c_slices_pdqsortOrdered_int_r2 : CCode :=
 (.seq
 (.region 0 [0, 1, 2, 3, 8, 9, 10, 11, 12] [
 mv 43 0,
 mv 44 1,
 mv 45 2,
 o 46 (.e (.call (.func 144) [t 43, t 44, t 45])),
 mv 42 46,
 o 47 (.p (.extract (t 42) 0)),
 o 48 (.p (.extract (t 42) 1)),
 mv 11 47,
 mv 12 48])
 (.seq
 (.seq
 (.region 0 [0, 1, 2, 3, 8, 9, 10, 11, 12, 50] [
 mv 49 12,
 o 50 (.p (.bin .eql (t 49) (.const (.int .i64 2))))])
 (.cond (t 50)
 (.seq
 (.region 0 [0, 1, 2, 3, 8, 9, 10, 11] [
 mv 51 0,
 mv 52 1,
 mv 53 2,
 o 54 (.e (.call (.func 145) [t 51, t 52, t 53]))])
 (.seq
 (.region 0 [0, 1, 2, 3, 8, 9, 10, 11] [
 mv 55 2,
 o 56 (.p (.bin .sub (t 55) (.const (.int .i64 1)))),
 mv 57 11,
 mv 58 1,
 o 59 (.p (.bin .sub (t 57) (t 58))),
 o 60 (.p (.bin .sub (t 56) (t 59))),
 mv 11 60])
 (.region 0 [0, 1, 2, 3, 8, 9, 10, 11, 12] [
 o 12 (.p (.move (.const (.int .i64 1))))])))
 .skip))
 c_slices_pdqsortOrdered_int_r1))
def c_slices_pdqsortOrdered_int_lp0 : CCode :=
 (.block 1
 (.seq
 (.region 0 [0, 1, 2, 3, 8, 9, 10] [
 mv 19 2,
 mv 20 1,
 o 21 (.p (.bin .sub (t 19) (t 20))),
 mv 10 21])
 (.seq
 (.seq
 (.region 0 [0, 1, 2, 3, 8, 9, 10, 23] [
 mv 22 10,
 o 23 (.p (.bin .leq (t 22) (.const (.int .i64 12))))])
 (.cond (t 23)
 (.seq
 (.region 0 [] [
 mv 24 0,
 mv 25 1,
 mv 26 2,
 o 27 (.e (.call (.func 141) [t 24, t 25, t 26]))])
 .ret)
 .skip))
 (.seq
 (.seq
 (.region 0 [0, 1, 2, 3, 8, 9, 10, 29] [
 mv 28 3,
 o 29 (.p (.bin .eql (t 28) (.const (.int .i64 0))))])
 (.cond (t 29)
 (.seq
 (.region 0 [] [
 mv 30 0,
 mv 31 1,
 mv 32 2,
 o 33 (.e (.call (.func 142) [t 30, t 31, t 32]))])
 .ret)
 .skip))
 (.seq
 (.seq
 (.region 0 [0, 1, 2, 3, 8, 9, 10, 35] [
 mv 34 8,
 o 35 (.p (.un .not (t 34)))])
 (.cond (t 35)
 (.seq
 (.region 0 [0, 1, 2, 3, 8, 9, 10] [
 mv 36 0,
 mv 37 1,
 mv 38 2,
 o 39 (.e (.call (.func 143) [t 36, t 37, t 38]))])
 (.region 0 [0, 1, 2, 3, 8, 9, 10] [
 mv 40 3,
 o 41 (.p (.bin .sub (t 40) (.const (.int .i64 1)))),
 mv 3 41]))
 .skip))
 c_slices_pdqsortOrdered_int_r2)))))
def c_slices_pdqsortOrdered_int : CFunc := ⟨false, 134, [],
 (.seq
 (.region 0 [0, 1, 2, 3, 8] [
 o 8 (.p (.move (.const (.bool true))))])
 (.seq
 (.region 0 [0, 1, 2, 3, 8, 9] [
 o 9 (.p (.move (.const (.bool true))))])
 (.block 0
 (.loop [0, 1, 2, 3, 8, 9] c_slices_pdqsortOrdered_int_lp0))))⟩

/-- isohyet/pred.small -/
@[reducible] def n_pred_small : Nat := 122
def c_pred_small_lp0 : CCode :=
 (.seq
 (.region 0 [5, 6, 7, 8] [
 o 8 (.p (.bin .lss (t 7) (t 6)))])
 (.seq
 (.cond (t 8)
 .skip
 (.exit 0))
 (.seq
 (.block 1
 (.seq
 (.region 0 [4, 5, 6, 7] [
 o 9 (.p (.indexAddr 1 (t 5) (t 7))),
 o 10 (.p (.load1 (t 9))),
 mv 4 10])
 (.seq
 (.region 0 [5, 6, 7, 16] [
 mv 11 4,
 o 12 (.p (.bin .lss (t 11) (.const (.int .i64 (-1073741824))))),
 mv 13 12,
 ⟨some 14, .p (.move (t 4)), (some (13, false)), none⟩,
 ⟨some 15, .p (.bin .gtr (t 14) (.const (.int .i64 1073741824))), (some (13, false)), none⟩,
 o 16 (.p (.pick (t 13) (.const (.bool true)) (t 15)))])
 (.cond (t 16)
 (.seq
 (.region 0 [2] [
 o 2 (.p (.move (.const (.bool false))))])
 .ret)
 .skip))))
 (.region 0 [5, 6, 7] [
 o 17 (.p (.bin .add (t 7) (.const (.int .i64 1)))),
 mv 7 17]))))
def c_pred_small : CFunc := ⟨true, 18, [.tmp 2],
 (.seq
 (.region 0 [0] [
 o 2 (.p (.move (.const (.bool false))))])
 (.seq
 (.seq
 (.region 0 [5, 6, 7] [
 mv 5 0,
 o 6 (.p (.len (t 5))),
 o 7 (.p (.move (.const (.int .i64 0))))])
 (.block 0
 (.loop [5, 6, 7] c_pred_small_lp0)))
 (.seq
 (.region 0 [2] [
 o 2 (.p (.move (.const (.bool true))))])
 .ret)))⟩

/-- isohyet/pred.quick -/
@[reducible] def n_pred_quick : Nat := 123
def c_pred_quick : CFunc := ⟨true, 81, [.tmp 12],
 (.seq
 (.region 0 [0, 1, 2, 3, 4, 5] [
 o 12 (.p (.move (.const (.int .i64 0))))])
 (.seq
 (.region 1 [0, 1, 2, 3, 4, 5, 13] [
 mv 20 2,
 mv 21 3,
 mv 22 4,
 mv 23 5,
 o 24 (.e (.call (.func 119) [t 20, t 21, t 22, t 23])),
 mv 25 0,
 mv 26 0,
 o 27 (.p (.bin .mul (t 25) (t 26))),
 mv 28 1,
 mv 29 1,
 o 30 (.p (.bin .mul (t 28) (t 29))),
 o 31 (.p (.bin .add (t 27) (t 30))),
 o 32 (.e (.call (.func 150) [t 24, t 31])),
 mv 19 32,
 o 33 (.p (.extract (t 19) 0)),
 o 34 (.p (.extract (t 19) 1)),
 o 13 (.a 0 (.alloc [.int .u64 0, .int .u64 0])),
 p (.e (.store 2 (t 13) (t 33))),
 mv 14 34])
 (.seq
 (.region 1 [0, 1, 2, 3, 4, 5, 13, 15] [
 mv 36 4,
 mv 37 5,
 mv 38 0,
 mv 39 1,
 o 40 (.e (.call (.func 119) [t 36, t 37, t 38, t 39])),
 mv 41 2,
 mv 42 2,
 o 43 (.p (.bin .mul (t 41) (t 42))),
 mv 44 3,
 mv 45 3,
 o 46 (.p (.bin .mul (t 44) (t 45))),
 o 47 (.p (.bin .add (t 43) (t 46))),
 o 48 (.e (.call (.func 150) [t 40, t 47])),
 mv 35 48,
 o 49 (.p (.extract (t 35) 0)),
 o 50 (.p (.extract (t 35) 1)),
 o 15 (.a 0 (.alloc [.int .u64 0, .int .u64 0])),
 p (.e (.store 2 (t 15) (t 49))),
 mv 16 50])
 (.seq
 (.region 1 [13, 15, 17] [
 mv 52 0,
 mv 53 1,
 mv 54 2,
 mv 55 3,
 o 56 (.e (.call (.func 119) [t 52, t 53, t 54, t 55])),
 mv 57 4,
 mv 58 4,
 o 59 (.p (.bin .mul (t 57) (t 58))),
 mv 60 5,
 mv 61 5,
 o 62 (.p (.bin .mul (t 60) (t 61))),
 o 63 (.p (.bin .add (t 59) (t 62))),
 o 64 (.e (.call (.func 150) [t 56, t 63])),
 mv 51 64,
 o 65 (.p (.extract (t 51) 0)),
 o 66 (.p (.extract (t 51) 1)),
 o 17 (.a 0 (.alloc [.int .u64 0, .int .u64 0])),
 p (.e (.store 2 (t 17) (t 65))),
 mv 18 66])
 (.seq
 (.region 0 [13, 17] [
 o 68 (.p (.loadN 2 (t 13))),
 o 69 (.p (.loadN 2 (t 15))),
 o 70 (.e (.call (.func 151) [t 68, t 69])),
 mv 67 70,
 o 71 (.p (.extract (t 67) 0)),
 o 72 (.p (.extract (t 67) 1)),
 p (.e (.store 2 (t 13) (t 71)))])
 (.seq
 (.region 0 [13] [
 o 74 (.p (.loadN 2 (t 13))),
 o 75 (.p (.loadN 2 (t 17))),
 o 76 (.e (.call (.func 151) [t 74, t 75])),
 mv 73 76,
 o 77 (.p (.extract (t 73) 0)),
 o 78 (.p (.extract (t 73) 1)),
 p (.e (.store 2 (t 13) (t 77)))])
 (.seq
 (.region 0 [12] [
 o 79 (.p (.loadN 2 (t 13))),
 o 80 (.e (.call (.func 97) [t 79])),
 mv 12 80])
 .ret)))))))⟩

/-- isohyet/wide.Mul -/
@[reducible] def n_wide_Mul : Nat := 126
def c_wide_Mul : CFunc := ⟨true, 29, [.cellN 4 2],
 (.seq
 (.region 1 [0, 1, 4] [
 o 4 (.a 0 (.alloc [.int .u64 0, .int .u64 0]))])
 (.seq
 (.region 0 [0, 1, 4, 5, 6] [
 mv 9 0,
 o 10 (.e (.call (.func 153) [t 9])),
 mv 11 1,
 o 12 (.e (.call (.func 153) [t 11])),
 o 13 (.e (.call (.func 116) [t 10, t 12])),
 mv 8 13,
 o 14 (.p (.extract (t 8) 0)),
 o 15 (.p (.extract (t 8) 1)),
 mv 5 14,
 mv 6 15])
 (.seq
 (.seq
 (.region 1 [0, 1, 4, 5, 6, 7] [
 mv 16 5,
 mv 17 6,
 o 18 (.p (.build [.int .u64 0, .int .u64 0] [(0, 1, t 16), (1, 1, t 17)])),
 o 7 (.a 0 (.alloc [.int .u64 0, .int .u64 0])),
 p (.e (.store 2 (t 7) (t 18)))])
 (.seq
 (.region 0 [4, 5, 6, 7, 23] [
 mv 19 0,
 o 20 (.p (.bin .lss (t 19) (.const (.int .i64 0)))),
 mv 21 1,
 o 22 (.p (.bin .lss (t 21) (.const (.int .i64 0)))),
 o 23 (.p (.eq true .bool (t 20) (t 22)))])
 (.cond (t 23)
 (.seq
 (.region 0 [4] [
 o 24 (.p (.loadN 2 (t 7))),
 o 25 (.e (.call (.func 152) [t 24])),
 p (.e (.store 2 (t 4) (t 25)))])
 .ret)
 .skip)))
 (.seq
 (.region 0 [4] [
 mv 26 5,
 mv 27 6,
 o 28 (.p (.build [.int .u64 0, .int .u64 0] [(0, 1, t 26), (1, 1, t 27)])),
 p (.e (.store 2 (t 4) (t 28)))])
 .ret))))⟩

/-- slices.insertionSortCmpFunc[isohyet/mesh.Edge] -/
@[reducible] def n_slices_insertionSortCmpFunc_Edge : Nat := 129
def c_slices_insertionSortCmpFunc_Edge_lp0 : CCode :=
 (.seq
 (.seq
 (.region 0 [0, 1, 2, 3, 8, 9, 34] [
 mv 18 9,
 mv 19 1,
 o 20 (.p (.bin .gtr (t 18) (t 19))),
 mv 21 20,
 ⟨some 22, .p (.move (t 3)), (some (21, true)), none⟩,
 ⟨some 23, .p (.move (t 0)), (some (21, true)), none⟩,
 ⟨some 24, .p (.move (t 9)), (some (21, true)), none⟩,
 ⟨some 25, .p (.indexAddr 4 (t 23) (t 24)), (some (21, true)), none⟩,
 ⟨some 26, .p (.loadN 4 (t 25)), (some (21, true)), none⟩,
 ⟨some 27, .p (.move (t 0)), (some (21, true)), none⟩,
 ⟨some 28, .p (.move (t 9)), (some (21, true)), none⟩,
 ⟨some 29, .p (.bin .sub (t 28) (.const (.int .i64 1))), (some (21, true)), none⟩,
 ⟨some 30, .p (.indexAddr 4 (t 27) (t 29)), (some (21, true)), none⟩,
 ⟨some 31, .p (.loadN 4 (t 30)), (some (21, true)), none⟩,
 ⟨some 32, .e (.call (t 22) [t 26, t 31]), (some (21, true)), none⟩,
 ⟨some 33, .p (.bin .lss (t 32) (.const (.int .i64 0))), (some (21, true)), none⟩,
 o 34 (.p (.pick (t 21) (t 33) (.const (.bool false))))])
 (.cond (t 34)
 .skip
 (.exit 2)))
 (.seq
 (.block 3
 (.region 0 [0, 1, 2, 3, 8, 9] [
 mv 37 0,
 mv 38 9,
 mv 39 0,
 mv 40 9,
 o 41 (.p (.bin .sub (t 40) (.const (.int .i64 1)))),
 mv 42 0,
 mv 43 9,
 o 44 (.p (.bin .sub (t 43) (.const (.int .i64 1)))),
 o 45 (.p (.indexAddr 4 (t 42) (t 44))),
 o 46 (.p (.loadN 4 (t 45))),
 mv 47 0,
 mv 48 9,
 o 49 (.p (.indexAddr 4 (t 47) (t 48))),
 o 50 (.p (.loadN 4 (t 49))),
 o 51 (.p (.indexAddr 4 (t 37) (t 38))),
 p (.e (.store 4 (t 51) (t 46))),
 o 52 (.p (.indexAddr 4 (t 39) (t 41))),
 p (.e (.store 4 (t 52) (t 50)))]))
 (.region 0 [0, 1, 2, 3, 8, 9] [
 mv 35 9,
 o 36 (.p (.bin .sub (t 35) (.const (.int .i64 1)))),
 mv 9 36])))
def c_slices_insertionSortCmpFunc_Edge_lp1 : CCode :=
 (.seq
 (.seq
 (.region 0 [0, 1, 2, 3, 8, 14] [
 mv 12 8,
 mv 13 2,
 o 14 (.p (.bin .lss (t 12) (t 13)))])
 (.cond (t 14)
 .skip
 (.exit 0)))
 (.seq
 (.block 1
 (.seq
 (.region 0 [0, 1, 2, 3, 8, 9] [
 mv 17 8,
 mv 9 17])
 (.block 2
 (.loop [0, 1, 2, 3, 8, 9] c_slices_insertionSortCmpFunc_Edge_lp0))))
 (.region 0 [0, 1, 2, 3, 8] [
 mv 15 8,
 o 16 (.p (.bin .add (t 15) (.const (.int .i64 1)))),
 mv 8 16])))
def c_slices_insertionSortCmpFunc_Edge : CFunc := ⟨false, 53, [],
 (.seq
 (.region 0 [0, 1, 2, 3, 8] [
 mv 10 1,
 o 11 (.p (.bin .add (t 10) (.const (.int .i64 1)))),
 mv 8 11])
 (.block 0
 (.loop [0, 1, 2, 3, 8] c_slices_insertionSortCmpFunc_Edge_lp1)))⟩

/-- isohyet/mag.Sub -/
@[reducible] def n_mag_Sub : Nat := 138
def c_mag_Sub_r0 : CCode :=
 (.region 0 [1, 5, 6, 21, 22, 23] [
 mv 37 5,
 mv 38 7,
 mv 39 8,
 mv 40 9,
 mv 41 6,
 o 42 (.e (.call (.func 117) [t 39, t 40, t 41])),
 mv 36 42,
 o 43 (.p (.extract (t 36) 0)),
 o 44 (.p (.extract (t 36) 1)),
 o 45 (.p (.indexAddr 1 (t 37) (t 38))),
 p (.e (.store 1 (t 45) (t 43))),
 mv 6 44])
def c_mag_Sub_lp0 : CCode :=
 (.seq
 (.region 0 [1, 5, 6, 21, 22, 23, 24] [
 o 24 (.p (.bin .lss (t 23) (t 22)))])
 (.seq
 (.cond (t 24)
 .skip
 (.exit 0))
 (.seq
 (.block 1
 (.seq
 (.region 0 [1, 5, 6, 7, 8, 21, 22, 23] [
 mv 25 23,
 o 26 (.p (.indexAddr 1 (t 21) (t 23))),
 o 27 (.p (.load1 (t 26))),
 mv 7 25,
 mv 8 27])
 (.seq
 (.region 0 [1, 5, 6, 7, 8, 9, 21, 22, 23] [
 o 9 (.p (.move (.const (.int .u64 0))))])
 (.seq
 (.seq
 (.region 0 [1, 5, 6, 7, 8, 9, 21, 22, 23, 31] [
 mv 28 7,
 mv 29 1,
 o 30 (.p (.len (t 29))),
 o 31 (.p (.bin .lss (t 28) (t 30)))])
 (.cond (t 31)
 (.region 0 [1, 5, 6, 7, 8, 9, 21, 22, 23] [
 mv 32 1,
 mv 33 7,
 o 34 (.p (.indexAddr 1 (t 32) (t 33))),
 o 35 (.p (.load1 (t 34))),
 mv 9 35])
 .skip))
 c_mag_Sub_r0))))
 (.region 0 [1, 5, 6, 21, 22, 23] [
 o 46 (.p (.bin .add (t 23) (.const (.int .i64 1)))),
 mv 23 46]))))
def c_mag_Sub : CFunc := ⟨true, 49, [.tmp 4],
 (.seq
 (.region 0 [0, 1] [
 o 4 (.p (.move (.const (.slice none 0 0))))])
 (.seq
 (.region 0 [0, 1] [
 mv 10 0,
 o 11 (.e (.call (.func 59) [t 10])),
 mv 12 1,
 o 13 (.e (.call (.func 59) [t 12])),
 mv 0 11,
 mv 1 13])
 (.seq
 (.seq
 (.region 0 [0, 1, 17] [
 mv 14 0,
 mv 15 1,
 o 16 (.e (.call (.func 88) [t 14, t 15])),
 o 17 (.p (.bin .leq (t 16) (.const (.int .i64 0))))])
 (.cond (t 17)
 (.seq
 (.region 0 [4] [
 o 4 (.p (.move (.const (.slice none 0 0))))])
 .ret)
 .skip))
 (.seq
 (.region 1 [0, 1, 5] [
 mv 18 0,
 o 19 (.p (.len (t 18))),
 o 20 (.a 0 (.makeSlice 1 8 [.int .u64 0] (t 19) (t 19))),
 mv 5 20])
 (.seq
 (.region 0 [0, 1, 5, 6] [
 o 6 (.p (.move (.const (.int .u64 0))))])
 (.seq
 (.seq
 (.region 0 [1, 5, 6, 21, 22, 23] [
 mv 21 0,
 o 22 (.p (.len (t 21))),
 o 23 (.p (.move (.const (.int .i64 0))))])
 (.block 0
 (.loop [1, 5, 6, 21, 22, 23] c_mag_Sub_lp0)))
 (.seq
 (.region 0 [4] [
 mv 47 5,
 o 48 (.e (.call (.func 59) [t 47])),
 mv 4 48])
 .ret)))))))⟩

/-- isohyet/wide.Sub -/
@[reducible] def n_wide_Sub : Nat := 140
def c_wide_Sub : CFunc := ⟨true, 45, [.cellN 4 2, .tmp 5],
 (.seq
 (.region 3 [2, 3, 4] [
 o 2 (.a 0 (.box (t 0))),
 o 3 (.a 1 (.box (t 1))),
 o 4 (.a 2 (.alloc [.int .u64 0, .int .u64 0])),
 o 5 (.p (.move (.const (.bool false))))])
 (.seq
 (.region 0 [2, 3, 4, 6, 7] [
 o 12 (.p (.fieldAddr 1 (t 2))),
 o 13 (.p (.load1 (t 12))),
 o 14 (.p (.fieldAddr 1 (t 3))),
 o 15 (.p (.load1 (t 14))),
 o 16 (.e (.call (.func 117) [t 13, t 15, .const (.int .u64 0)])),
 mv 11 16,
 o 17 (.p (.extract (t 11) 0)),
 o 18 (.p (.extract (t 11) 1)),
 mv 6 17,
 mv 7 18])
 (.seq
 (.region 0 [2, 3, 4, 6, 8] [
 o 20 (.p (.fieldAddr 0 (t 2))),
 o 21 (.p (.load1 (t 20))),
 o 22 (.p (.fieldAddr 0 (t 3))),
 o 23 (.p (.load1 (t 22))),
 mv 24 7,
 o 25 (.e (.call (.func 117) [t 21, t 23, t 24])),
 mv 19 25,
 o 26 (.p (.extract (t 19) 0)),
 o 27 (.p (.extract (t 19) 1)),
 mv 8 26,
 mv 9 27])
 (.seq
 (.region 1 [2, 3, 4, 10] [
 mv 28 8,
 mv 29 6,
 o 30 (.p (.build [.int .u64 0, .int .u64 0] [(0, 1, t 28), (1, 1, t 29)])),
 o 10 (.a 0 (.alloc [.int .u64 0, .int .u64 0])),
 p (.e (.store 2 (t 10) (t 30)))])
 (.seq
 (.seq
 (.region 0 [4, 10, 42] [
 o 31 (.p (.loadN 2 (t 2))),
 o 32 (.e (.call (.func 118) [t 31])),
 l 33 1 0 (.p (.loadN 2 (t 3))),
 o 34 (.e (.call (.func 118) [t 33])),
 o 35 (.p (.eq true .bool (t 32) (t 34))),
 mv 36 35,
 ⟨some 37, .p (.loadN 2 (t 10)), (some (36, true)), none⟩,
 ⟨some 38, .e (.call (.func 118) [t 37]), (some (36, true)), none⟩,
 ⟨some 39, .p (.loadN 2 (t 2)), (some (36, true)), some (1, 0)⟩,
 ⟨some 40, .e (.call (.func 118) [t 39]), (some (36, true)), none⟩,
 ⟨some 41, .p (.eq true .bool (t 38) (t 40)), (some (36, true)), none⟩,
 o 42 (.p (.pick (t 36) (t 41) (.const (.bool false))))])
 (.cond (t 42)
 (.seq
 (.region 0 [4, 5] [
 o 43 (.p (.build [.int .u64 0, .int .u64 0] [])),
 p (.e (.store 2 (t 4) (t 43))),
 o 5 (.p (.move (.const (.bool false))))])
 .ret)
 .skip))
 (.seq
 (.region 0 [4, 5] [
 o 44 (.p (.loadN 2 (t 10))),
 p (.e (.store 2 (t 4) (t 44))),
 o 5 (.p (.move (.const (.bool true))))])
 .ret))))))⟩

/-- slices.insertionSortOrdered[int] -/
@[reducible] def n_slices_insertionSortOrdered_int : Nat := 141
def c_slices_insertionSortOrdered_int_lp0 : CCode :=
 (.seq
 (.seq
 (.region 0 [0, 1, 2, 6, 7, 30] [
 mv 16 7,
 mv 17 1,
 o 18 (.p (.bin .gtr (t 16) (t 17))),
 mv 19 18,
 ⟨some 20, .p (.move (t 0)), (some (19, true)), none⟩,
 ⟨some 21, .p (.move (t 7)), (some (19, true)), none⟩,
 ⟨some 22, .p (.indexAddr 1 (t 20) (t 21)), (some (19, true)), none⟩,
 ⟨some 23, .p (.load1 (t 22)), (some (19, true)), none⟩,
 ⟨some 24, .p (.move (t 0)), (some (19, true)), none⟩,
 ⟨some 25, .p (.move (t 7)), (some (19, true)), none⟩,
 ⟨some 26, .p (.bin .sub (t 25) (.const (.int .i64 1))), (some (19, true)), none⟩,
 ⟨some 27, .p (.indexAddr 1 (t 24) (t 26)), (some (19, true)), none⟩,
 ⟨some 28, .p (.load1 (t 27)), (some (19, true)), none⟩,
 ⟨some 29, .e (.call (.func 147) [t 23, t 28]), (some (19, true)), none⟩,
 o 30 (.p (.pick (t 19) (t 29) (.const (.bool false))))])
 (.cond (t 30)
 .skip
 (.exit 2)))
 (.seq
 (.block 3
 (.region 0 [0, 1, 2, 6, 7] [
 mv 33 0,
 mv 34 7,
 mv 35 0,
 mv 36 7,
 o 37 (.p (.bin .sub (t 36) (.const (.int .i64 1)))),
 mv 38 0,
 mv 39 7,
 o 40 (.p (.bin .sub (t 39) (.const (.int .i64 1)))),
 o 41 (.p (.indexAddr 1 (t 38) (t 40))),
 o 42 (.p (.load1 (t 41))),
 mv 43 0,
 mv 44 7,
 o 45 (.p (.indexAddr 1 (t 43) (t 44))),
 o 46 (.p (.load1 (t 45))),
 o 47 (.p (.indexAddr 1 (t 33) (t 34))),
 p (.e (.store 1 (t 47) (t 42))),
 o 48 (.p (.indexAddr 1 (t 35) (t 37))),
 p (.e (.store 1 (t 48) (t 46)))]))
 (.region 0 [0, 1, 2, 6, 7] [
 mv 31 7,
 o 32 (.p (.bin .sub (t 31) (.const (.int .i64 1)))),
 mv 7 32])))
def c_slices_insertionSortOrdered_int_lp1 : CCode :=
 (.seq
 (.seq
 (.region 0 [0, 1, 2, 6, 12] [
 mv 10 6,
 mv 11 2,
 o 12 (.p (.bin .lss (t 10) (t 11)))])
 (.cond (t 12)
 .skip
 (.exit 0)))
 (.seq
 (.block 1
 (.seq
 (.region 0 [0, 1, 2, 6, 7] [
 mv 15 6,
 mv 7 15])
 (.block 2
 (.loop [0, 1, 2, 6, 7] c_slices_insertionSortOrdered_int_lp0))))
 (.region 0 [0, 1, 2, 6] [
 mv 13 6,
 o 14 (.p (.bin .add (t 13) (.const (.int .i64 1)))),
 mv 6 14])))
def c_slices_insertionSortOrdered_int : CFunc := ⟨false, 49, [],
 (.seq
 (.region 0 [0, 1, 2, 6] [
 mv 8 1,
 o 9 (.p (.bin .add (t 8) (.const (.int .i64 1)))),
 mv 6 9])
 (.block 0
 (.loop [0, 1, 2, 6] c_slices_insertionSortOrdered_int_lp1)))⟩

/-- cmp.Less[int] -/
@[reducible] def n_cmp_Less_int : Nat := 147
def c_cmp_Less_int : CFunc := ⟨true, 17, [.tmp 4],
 (.seq
 (.region 0 [0, 1] [
 o 4 (.p (.move (.const (.bool false))))])
 (.seq
 (.region 0 [4] [
 mv 5 0,
 o 6 (.e (.call (.func 162) [t 5])),
 mv 7 6,
 ⟨some 8, .p (.move (t 1)), (some (7, true)), none⟩,
 ⟨some 9, .e (.call (.func 162) [t 8]), (some (7, true)), none⟩,
 ⟨some 10, .p (.un .not (t 9)), (some (7, true)), none⟩,
 o 11 (.p (.pick (t 7) (t 10) (.const (.bool false)))),
 mv 12 11,
 ⟨some 13, .p (.move (t 0)), (some (12, false)), none⟩,
 ⟨some 14, .p (.move (t 1)), (some (12, false)), none⟩,
 ⟨some 15, .p (.bin .lss (t 13) (t 14)), (some (12, false)), none⟩,
 o 16 (.p (.pick (t 12) (.const (.bool true)) (t 15))),
 mv 4 16])
 .ret))⟩

/-- isohyet/wide.Times -/
@[reducible] def n_wide_Times : Nat := 150
def c_wide_Times_r0 : CCode :=
 (.seq
 (.region 0 [2, 4, 6, 7] [
 mv 23 1,
 o 24 (.e (.call (.func 153) [t 23])),
 mv 7 24])
 (.seq
 (.region 0 [2, 4, 6, 7, 8, 9] [
 o 26 (.p (.fieldAddr 0 (t 2))),
 o 27 (.p (.load1 (t 26))),
 mv 28 7,
 o 29 (.e (.call (.func 116) [t 27, t 28])),
 mv 25 29,
 o 30 (.p (.extract (t 25) 0)),
 o 31 (.p (.extract (t 25) 1)),
 mv 8 30,
 mv 9 31])
 (.seq
 (.region 0 [4, 6, 8, 9, 10, 11] [
 o 33 (.p (.fieldAddr 1 (t 2))),
 o 34 (.p (.load1 (t 33))),
 mv 35 7,
 o 36 (.e (.call (.func 116) [t 34, t 35])),
 mv 32 36,
 o 37 (.p (.extract (t 32) 0)),
 o 38 (.p (.extract (t 32) 1)),
 mv 10 37,
 mv 11 38])
 (.seq
 (.region 0 [4, 6, 8, 9, 11, 12] [
 mv 40 9,
 mv 41 10,
 o 42 (.e (.call (.func 58) [t 40, t 41, .const (.int .u64 0)])),
 mv 39 42,
 o 43 (.p (.extract (t 39) 0)),
 o 44 (.p (.extract (t 39) 1)),
 mv 9 43,
 mv 12 44])
 (.seq
 (.region 1 [4, 6, 8, 12, 13] [
 mv 45 9,
 mv 46 11,
 o 47 (.p (.build [.int .u64 0, .int .u64 0] [(0, 1, t 45), (1, 1, t 46)])),
 o 13 (.a 0 (.alloc [.int .u64 0, .int .u64 0])),
 p (.e (.store 2 (t 13) (t 47)))])
 (.seq
 (.block 0
 (.seq
 (.region 0 [4, 6, 13, 48] [
 mv 49 8,
 mv 50 12,
 o 51 (.p (.bin .add (t 49) (t 50))),
 o 52 (.p (.bin .gtr (t 51) (.const (.int .u64 0)))),
 mv 48 52])
 (.cond (t 48)
 (.seq
 (.region 0 [4, 5] [
 o 53 (.p (.build [.int .u64 0, .int .u64 0] [])),
 p (.e (.store 2 (t 4) (t 53))),
 o 5 (.p (.move (.const (.bool false))))])
 .ret)
 (.seq
 (.region 0 [4, 13, 54] [
 mv 55 6,
 mv 54 55])
 (.cond (t 54)
 (.seq
 (.region 0 [4, 13] [
 o 56 (.p (.loadN 2 (t 13))),
 o 57 (.e (.call (.func 152) [t 56])),
 p (.e (.store 2 (t 13) (t 57)))])
 (.seq
 (.region 0 [4, 5] [
 l 58 0 1 (.p (.loadN 2 (t 13))),
 o 59 (.p (.loadN 2 (t 13))),
 o 60 (.e (.call (.func 118) [t 59])),
 mv 61 60,
 ⟨some 62, .p (.loadN 2 (t 13)), (some (61, false)), none⟩,
 ⟨some 63, .p (.build [.int .u64 0, .int .u64 0] []), (some (61, false)), none⟩,
 ⟨some 64, .p (.eq false (.agg [true, true]) (t 62) (t 63)), (some (61, false)), none⟩,
 o 65 (.p (.pick (t 61) (.const (.bool true)) (t 64))),
 o 66 (.e (.call (.func 163) [t 58, t 65])),
 o 67 (.p (.extract (t 66) 0)),
 o 68 (.p (.extract (t 66) 1)),
 p (.e (.store 2 (t 4) (t 67))),
 mv 5 68])
 .ret))
 .skip)))))
 (.seq
 (.region 0 [4, 5] [
 l 69 0 1 (.p (.loadN 2 (t 13))),
 o 70 (.p (.loadN 2 (t 13))),
 o 71 (.e (.call (.func 118) [t 70])),
 o 72 (.p (.un .not (t 71))),
 o 73 (.e (.call (.func 163) [t 69, t 72])),
 o 74 (.p (.extract (t 73) 0)),
 o 75 (.p (.extract (t 73) 1)),
 p (.e (.store 2 (t 4) (t 74))),
 mv 5 75])
 .ret)))))))
def c_wide_Times : CFunc := ⟨true, 76, [.cellN 4 2, .tmp 5],
 (.seq
 (.region 2 [1, 2, 4] [
 o 2 (.a 0 (.box (t 0))),
 o 4 (.a 1 (.alloc [.int .u64 0, .int .u64 0])),
 o 5 (.p (.move (.const (.bool false))))])
 (.seq
 (.region 0 [1, 2, 4, 6] [
 o 14 (.p (.loadN 2 (t 2))),
 o 15 (.e (.call (.func 118) [t 14])),
 mv 16 1,
 o 17 (.p (.bin .lss (t 16) (.const (.int .i64 0)))),
 o 18 (.p (.eq true .bool (t 15) (t 17))),
 mv 6 18])
 (.seq
 (.seq
 (.region 0 [1, 2, 4, 6, 20] [
 o 19 (.p (.loadN 2 (t 2))),
 o 20 (.e (.call (.func 118) [t 19]))])
 (.cond (t 20)
 (.region 0 [1, 2, 4, 6] [
 o 21 (.p (.loadN 2 (t 2))),
 o 22 (.e (.call (.func 152) [t 21])),
 p (.e (.store 2 (t 2) (t 22)))])
 .skip))
 c_wide_Times_r0)))⟩

/-- isohyet/wide.Add -/
@[reducible] def n_wide_Add : Nat := 151
def c_wide_Add : CFunc := ⟨true, 45, [.cellN 4 2, .tmp 5],
 (.seq
 (.region 3 [2, 3, 4] [
 o 2 (.a 0 (.box (t 0))),
 o 3 (.a 1 (.box (t 1))),
 o 4 (.a 2 (.alloc [.int .u64 0, .int .u64 0])),
 o 5 (.p (.move (.const (.bool false))))])
 (.seq
 (.region 0 [2, 3, 4, 6, 7] [
 o 12 (.p (.fieldAddr 1 (t 2))),
 o 13 (.p (.load1 (t 12))),
 o 14 (.p (.fieldAddr 1 (t 3))),
 o 15 (.p (.load1 (t 14))),
 o 16 (.e (.call (.func 58) [t 13, t 15, .const (.int .u64 0)])),
 mv 11 16,
 o 17 (.p (.extract (t 11) 0)),
 o 18 (.p (.extract (t 11) 1)),
 mv 6 17,
 mv 7 18])
 (.seq
 (.region 0 [2, 3, 4, 6, 8] [
 o 20 (.p (.fieldAddr 0 (t 2))),
 o 21 (.p (.load1 (t 20))),
 o 22 (.p (.fieldAddr 0 (t 3))),
 o 23 (.p (.load1 (t 22))),
 mv 24 7,
 o 25 (.e (.call (.func 58) [t 21, t 23, t 24])),
 mv 19 25,
 o 26 (.p (.extract (t 19) 0)),
 o 27 (.p (.extract (t 19) 1)),
 mv 8 26,
 mv 9 27])
 (.seq
 (.region 1 [2, 3, 4, 10] [
 mv 28 8,
 mv 29 6,
 o 30 (.p (.build [.int .u64 0, .int .u64 0] [(0, 1, t 28), (1, 1, t 29)])),
 o 10 (.a 0 (.alloc [.int .u64 0, .int .u64 0])),
 p (.e (.store 2 (t 10) (t 30)))])
 (.seq
 (.seq
 (.region 0 [4, 10, 42] [
 o 31 (.p (.loadN 2 (t 2))),
 o 32 (.e (.call (.func 118) [t 31])),
 l 33 1 0 (.p (.loadN 2 (t 3))),
 o 34 (.e (.call (.func 118) [t 33])),
 o 35 (.p (.eq false .bool (t 32) (t 34))),
 mv 36 35,
 ⟨some 37, .p (.loadN 2 (t 10)), (some (36, true)), none⟩,
 ⟨some 38, .e (.call (.func 118) [t 37]), (some (36, true)), none⟩,
 ⟨some 39, .p (.loadN 2 (t 2)), (some (36, true)), some (1, 0)⟩,
 ⟨some 40, .e (.call (.func 118) [t 39]), (some (36, true)), none⟩,
 ⟨some 41, .p (.eq true .bool (t 38) (t 40)), (some (36, true)), none⟩,
 o 42 (.p (.pick (t 36) (t 41) (.const (.bool false))))])
 (.cond (t 42)
 (.seq
 (.region 0 [4, 5] [
 o 43 (.p (.build [.int .u64 0, .int .u64 0] [])),
 p (.e (.store 2 (t 4) (t 43))),
 o 5 (.p (.move (.const (.bool false))))])
 .ret)
 .skip))
 (.seq
 (.region 0 [4, 5] [
 o 44 (.p (.loadN 2 (t 10))),
 p (.e (.store 2 (t 4) (t 44))),
 o 5 (.p (.move (.const (.bool true))))])
 .ret))))))⟩

/-- isohyet/wide.turn -/
@[reducible] def n_wide_turn : Nat := 152
def c_wide_turn : CFunc := ⟨true, 25, [.cellN 2 2],
 (.seq
 (.region 2 [1, 2] [
 o 1 (.a 0 (.box (t 0))),
 o 2 (.a 1 (.alloc [.int .u64 0, .int .u64 0]))])
 (.seq
 (.region 0 [1, 2, 3, 4] [
 o 8 (.p (.fieldAddr 1 (t 1))),
 o 9 (.p (.load1 (t 8))),
 o 10 (.p (.un .xor (t 9))),
 o 11 (.e (.call (.func 58) [t 10, .const (.int .u64 1), .const (.int .u64 0)])),
 mv 7 11,
 o 12 (.p (.extract (t 7) 0)),
 o 13 (.p (.extract (t 7) 1)),
 mv 3 12,
 mv 4 13])
 (.seq
 (.region 0 [2, 3, 5] [
 o 15 (.p (.fieldAddr 0 (t 1))),
 o 16 (.p (.load1 (t 15))),
 o 17 (.p (.un .xor (t 16))),
 mv 18 4,
 o 19 (.e (.call (.func 58) [t 17, .const (.int .u64 0), t 18])),
 mv 14 19,
 o 20 (.p (.extract (t 14) 0)),
 o 21 (.p (.extract (t 14) 1)),
 mv 5 20,
 mv 6 21])
 (.seq
 (.region 0 [2] [
 mv 22 5,
 mv 23 3,
 o 24 (.p (.build [.int .u64 0, .int .u64 0] [(0, 1, t 22), (1, 1, t 23)])),
 p (.e (.store 2 (t 2) (t 24)))])
 .ret))))⟩

/-- isohyet/wide.abs -/
@[reducible] def n_wide_abs : Nat := 153
def c_wide_abs : CFunc := ⟨true, 10, [.tmp 2],
 (.seq
 (.region 0 [0] [
 o 2 (.p (.move (.const (.int .u64 0))))])
 (.seq
 (.seq
 (.region 0 [0, 4] [
 mv 3 0,
 o 4 (.p (.bin .lss (t 3) (.const (.int .i64 0))))])
 (.cond (t 4)
 (.seq
 (.region 0 [2] [
 mv 5 0,
 o 6 (.p (.conv .u64 (t 5))),
 o 7 (.p (.un .neg (t 6))),
 mv 2 7])
 .ret)
 .skip))
 (.seq
 (.region 0 [2] [
 mv 8 0,
 o 9 (.p (.conv .u64 (t 8))),
 mv 2 9])
 .ret)))⟩

/-- cmp.isNaN[int] -/
@[reducible] def n_cmp_isNaN_int : Nat := 162
def c_cmp_isNaN_int : CFunc := ⟨true, 6, [.tmp 2],
 (.seq
 (.region 0 [0] [
 o 2 (.p (.move (.const (.bool false))))])
 (.seq
 (.region 0 [2] [
 mv 3 0,
 mv 4 0,
 o 5 (.p (.bin .neq (t 3) (t 4))),
 mv 2 5])
 .ret))⟩

/-- isohyet/wide.pick -/
@[reducible] def n_wide_pick : Nat := 163
def c_wide_pick : CFunc := ⟨true, 10, [.cellN 4 2, .tmp 5],
 (.seq
 (.region 2 [1, 2, 4] [
 o 2 (.a 0 (.box (t 0))),
 o 4 (.a 1 (.alloc [.int .u64 0, .int .u64 0])),
 o 5 (.p (.move (.const (.bool false))))])
 (.seq
 (.seq
 (.region 0 [2, 4, 7] [
 mv 6 1,
 o 7 (.p (.un .not (t 6)))])
 (.cond (t 7)
 (.seq
 (.region 0 [4, 5] [
 o 8 (.p (.build [.int .u64 0, .int .u64 0] [])),
 p (.e (.store 2 (t 4) (t 8))),
 o 5 (.p (.move (.const (.bool false))))])
 .ret)
 .skip))
 (.seq
 (.region 0 [4, 5] [
 o 9 (.p (.loadN 2 (t 2))),
 p (.e (.store 2 (t 4) (t 9))),
 o 5 (.p (.move (.const (.bool true))))])
 .ret)))⟩

def table : Tree CDecl :=
  (.node (.node (.node (.node (.node (.node (.node .leaf (some (.fn c_frac_below)) .leaf) (some (.fn c_grow_Base)) (.node .leaf (some (.fn c_mag_Mul)) .leaf)) (some (.fn c_l14_Small)) (.node .leaf (some (.fn c_Mesh_Edges)) (.node .leaf (some (.fn c_slices_pdqsortCmpFunc_Edge)) .leaf))) (some (.fn c_chain_Thin)) (.node (.node (.node .leaf (some (.fn c_Mesh_Drop)) .leaf) (some (.fn c_Mesh_All)) (.node .leaf (some (.fn c_slices_Index_int)) .leaf)) (some (.fn c_march_Point)) (.node (.node (.node .leaf (some (.fn c_wide_Add)) .leaf) (some (.fn c_bits_Len64)) .leaf) (some (.fn c_frac_lone)) (.node .leaf (some (.fn c_wide_Det)) .leaf)))) (some (.fn c_l20_ChainThins)) (.node (.node (.node (.node .leaf (some (.fn c_Mesh_Link)) .leaf) none (.node (.node .leaf (some (.fn c_wide_pick)) .leaf) (some (.fn c_walk_first)) .leaf)) (some (.fn c_walk_Look)) (.node (.node (.node .leaf (some (.fn c_cmp_Less_int)) .leaf) (some (.fn c_Mesh_Edges_1_1)) .leaf) (some (.fn c_spot_Of)) (.node .leaf (some (.fn c_bits_Div64)) .leaf))) (some (.fn c_l07_Tame_1)) (.node (.node .leaf (some (.fn c_walk_beyond)) .leaf) (some (.fn c_frac_low)) (.node .leaf (some (.fn c_mag_right)) (.node .leaf (some (.fn c_pred_quick)) .leaf))))) none (.node (.node (.node (.node (.node (.node .leaf (some (.fn c_slices_insertionSortCmpFunc_Edge)) .leaf) (some (.fn c_pred_Orient)) .leaf) (some (.fn c_grow_Insert)) (.node .leaf (some (.fn c_wide_Sign)) .leaf)) (some (.fn c_l13_Ends)) (.node (.node .leaf (some (.fn c_Mesh_Edges_1)) .leaf) (some (.fn c_frac_Sub)) (.node .leaf (some (.fn c_num_Add)) .leaf))) (some (.fn c_chain_Trace)) (.node (.node .leaf (some (.fn c_walk_within)) (.node .leaf (some (.fn c_Tri_place)) .leaf)) (some (.fn c_num_Of)) (.node (.node (.node .leaf (some (.fn c_wide_abs)) .leaf) (some (.fn c_mag_word)) .leaf) (some (.fn c_mag_Div)) (.node .leaf (some (.fn c_slices_pdqsortOrdered_int)) .leaf)))) (some (.fn c_l07_Tame)) (.node (.node (.node (.node .leaf (some (.fn c_grow_parted)) .leaf) none (.node .leaf (some (.fn c_cavity_Conflict)) .leaf)) (some (.fn c_march_Crossed)) (.node (.node .leaf (some (.fn c_frac_Neg)) .leaf) (some (.fn c_mag_Of)) (.node .leaf (some .sub64) .leaf))) (some (.fn c_num_Make)) (.node (.node (.node (.node .leaf (some (.fn c_slices_insertionSortOrdered_int)) .leaf) none .leaf) (some (.fn c_march_Above)) (.node .leaf (some (.fn c_pred_Circle)) .leaf)) (some (.fn c_frac_Cmp)) (.node .leaf (some (.fn c_num_Cmp)) .leaf))))) none (.node (.node (.node (.node (.node (.node .leaf (some (.fn c_l06_Tame)) .leaf) (some (.fn c_mesh_New)) (.node .leaf (some (.fn c_frac_den)) .leaf)) (some (.fn c_grow_Build)) (.node (.node .leaf (some (.fn c_Mesh_All_1)) .leaf) (some (.fn c_frac_Div)) (.node .leaf (some (.fn c_bits_Len)) .leaf))) (some (.fn c_l14_Scene)) (.node (.node (.node .leaf (some (.fn c_Mesh_Around)) .leaf) (some (.fn c_walk_Holds)) (.node .leaf (some (.fn c_Mesh_Around_1)) .leaf)) (some (.fn c_frac_Whole)) (.node (.node (.node .leaf (some (.fn c_wide_turn)) .leaf) (some (.fn c_mag_Cmp)) .leaf) (some (.fn c_mag_Gcd)) (.node .leaf (some (.fn c_pred_Between)) .leaf)))) (some (.fn c_l20_fit)) (.node (.node (.node (.node .leaf (some (.fn c_walk_Find)) .leaf) none (.node .leaf (some (.fn c_cavity_across)) .leaf)) (some (.fn c_march_Steps)) (.node (.node .leaf (some (.fn c_frac_Add)) .leaf) (some (.fn c_frac_one)) (.node .leaf (some (.fn c_bits_Mul64)) .leaf))) (some (.fn c_frac_Make)) (.node (.node (.node (.node .leaf (some (.fn c_wide_Sub)) .leaf) (some (.fn c_Mesh_Find)) .leaf) (some (.fn c_march_Steps_1)) .leaf) (some (.fn c_mag_Add)) (.node .leaf (some (.fn c_frac_Sign)) .leaf)))) none (.node (.node (.node (.node (.node .leaf (some (.fn c_Mesh_Make)) .leaf) (some (.fn c_Mesh_At)) (.node (.node .leaf (some (.fn c_cmp_isNaN_int)) .leaf) (some (.fn c_pred_area2)) .leaf)) none (.node (.node .leaf (some (.fn c_slices_SortFunc_Edge)) .leaf) (some (.fn c_spot_Along)) (.node .leaf (some (.fn c_num_Neg)) .leaf))) (some (.fn c_frac_Of)) (.node (.node (.node (.node .leaf (some (.fn c_mag_Sub)) .leaf) none .leaf) (some (.fn c_Mesh_Real)) (.node .leaf (some (.fn c_pred_On)) .leaf)) (some (.fn c_num_Sign)) (.node .leaf (some .add64) (.node .leaf (some (.fn c_pred_small)) .leaf)))) (some (.fn c_spot_Same)) (.node (.node (.node (.node .leaf (some (.fn c_cavity_Dig)) .leaf) none (.node .leaf (some (.fn c_slices_Sort_int)) .leaf)) (some (.fn c_tracer_line)) (.node (.node (.node .leaf (some (.fn c_wide_Times)) .leaf) (some (.fn c_frac_Mul)) .leaf) (some (.fn c_mag_Len)) (.node .leaf (some (.fn c_wide_minus)) .leaf))) (some (.fn c_frac_Same)) (.node (.node .leaf (some (.fn c_march_edge)) .leaf) (some (.fn c_l12_Apart)) (.node .leaf (some (.fn c_num_Mul)) (.node .leaf (some (.fn c_wide_Mul)) .leaf)))))))
def prog (n : Nat) : Option CDecl := table.get n
end Go.Iso



