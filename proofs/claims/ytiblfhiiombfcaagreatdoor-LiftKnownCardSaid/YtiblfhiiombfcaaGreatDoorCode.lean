/- The code that the law reaches, as the interpreter takes it; each function's is shown to be the program's own. By an AI agent. No person has read it. -/
import Derived.Test.YtiblfhiiombfcaaGreatDoorCodeB
import Derived.Test.YtiblfhiiombfcaaGreatDoorChecked
import Derived.KernelRfl
namespace Go.Proofs.YtiblfhiiombfcaaGreatDoor.code
open Go Am
set_option maxRecDepth 100000
def c187 : CF := ⟨45, [],
 (.seq (.ops [⟨some 5, none, .box (.tmp 0)⟩])
 (.seq (.seq (.ops [⟨some 9, none, .fad (.tmp 5) 2⟩,
 ⟨some 10, none, .ld1 (.tmp 9)⟩,
 ⟨some 11, none, .mov (.tmp 1)⟩,
 ⟨some 12, none, .bin .sub (.tmp 10) (.tmp 11)⟩,
 ⟨some 7, none, .mov (.tmp 12)⟩])
 (.block 0 (.seq (.ops [⟨some 14, none, .mov (.tmp 7)⟩,
 ⟨some 15, none, .ld1 (.tmp 2)⟩,
 ⟨some 16, none, .bin .geq (.tmp 14) (.tmp 15)⟩,
 ⟨some 13, none, .mov (.tmp 16)⟩])
 (.cond (.tmp 13)
 (.ops [⟨some 17, none, .fad (.tmp 5) 2⟩,
 ⟨some 18, none, .ld1 (.tmp 17)⟩,
 ⟨some 19, none, .ld1 (.tmp 2)⟩,
 ⟨some 20, none, .bin .sub (.tmp 18) (.tmp 19)⟩,
 ⟨some 21, none, .fad (.tmp 5) 2⟩,
 ⟨none, none, .st 1 (.tmp 21) (.tmp 20)⟩])
 (.seq (.ops [⟨some 23, none, .mov (.tmp 7)⟩,
 ⟨some 24, none, .bin .geq (.tmp 23) (.const (.int .i64 0))⟩,
 ⟨some 22, none, .mov (.tmp 24)⟩])
 (.cond (.tmp 22)
 (.seq (.seq (.ops [⟨some 25, none, .ld1 (.tmp 3)⟩,
 ⟨some 26, none, .ld1 (.tmp 2)⟩,
 ⟨some 27, none, .bin .sub (.tmp 26) (.const (.int .i64 1))⟩,
 ⟨some 28, none, .mov (.tmp 7)⟩,
 ⟨some 29, none, .bin .sub (.tmp 27) (.tmp 28)⟩,
 ⟨some 30, none, .iad 1 (.tmp 25) (.tmp 29)⟩,
 ⟨some 31, none, .ld1 (.tmp 30)⟩,
 ⟨some 8, none, .mov (.tmp 31)⟩])
 (.seq (.ops [⟨some 32, none, .mov (.tmp 8)⟩,
 ⟨some 33, none, .lnl (.tmp 32)⟩,
 ⟨some 34, none, .bin .gtr (.tmp 33) (.const (.int .i64 0))⟩])
 (.cond (.tmp 34)
 (.ops [⟨some 35, none, .ld1 (.tmp 4)⟩,
 ⟨some 36, none, .mov (.tmp 8)⟩,
 ⟨some 37, none, .mov (.tmp 1)⟩,
 ⟨some 38, none, .call (.func 139) [(.tmp 35), (.tmp 36), (.tmp 37), (.const (.int .i64 0))]⟩])
 (.ops [⟨some 39, none, .ld1 (.tmp 4)⟩,
 ⟨some 40, none, .nilck (.tmp 39)⟩,
 ⟨some 41, none, .fad (.tmp 40) 2⟩,
 ⟨none, none, .st 1 (.tmp 41) (.const (.int .i64 3))⟩]))))
 .ret)
 .skip))))))
 (.ops [⟨some 42, none, .ld1 (.tmp 4)⟩,
 ⟨some 43, none, .ld 6 (.tmp 5)⟩,
 ⟨some 44, none, .call (.func 138) [(.tmp 42), (.tmp 43)]⟩])))⟩
theorem ok187 : compF Tryz.prog Tryz.f187 = some c187 := by kernel_rfl
def c188 : CF := ⟨9, [.tmp 4],
 (.seq (.ops [⟨some 4, none, .mov (.const (.bool false))⟩])
 (.seq (.ops [⟨some 5, none, .mov (.tmp 0)⟩,
 ⟨some 6, none, .mov (.tmp 1)⟩,
 ⟨some 7, none, .call (.func 223) [(.tmp 5), (.tmp 6)]⟩,
 ⟨some 8, none, .bin .geq (.tmp 7) (.const (.int .i64 0))⟩,
 ⟨some 4, none, .mov (.tmp 8)⟩])
 .ret))⟩
theorem ok188 : compF Tryz.prog Tryz.f188 = some c188 := by kernel_rfl
def c189 : CF := ⟨11, [.tmp 2],
 (.seq (.ops [⟨some 1, none, .box (.tmp 0)⟩,
 ⟨some 2, none, .mov (.const (.bool false))⟩])
 (.seq (.ops [⟨some 3, none, .fad (.tmp 1) 0⟩,
 ⟨some 4, none, .ld1 (.tmp 3)⟩,
 ⟨some 5, none, .bin .eql (.tmp 4) (.const (.int .i64 7))⟩,
 ⟨some 6, none, .mov (.tmp 5)⟩,
 ⟨some 7, (some (6, true)), .fad (.tmp 1) 2⟩,
 ⟨some 8, (some (6, true)), .ld1 (.tmp 7)⟩,
 ⟨some 9, (some (6, true)), .bin .gtr (.tmp 8) (.const (.int .i64 1000000))⟩,
 ⟨some 10, none, .pick (.tmp 6) (.tmp 9) (.const (.bool false))⟩,
 ⟨some 2, none, .mov (.tmp 10)⟩])
 .ret))⟩
theorem ok189 : compF Tryz.prog Tryz.f189 = some c189 := by kernel_rfl
def c190 : CF := ⟨27, [.tmp 4],
 (.seq (.ops [⟨some 4, none, .mov (.const (.slice none 0 0))⟩])
 (.seq (.seq (.ops [⟨some 5, none, .mov (.tmp 1)⟩,
 ⟨some 6, none, .bin .lss (.tmp 5) (.const (.int .i64 0))⟩])
 (.cond (.tmp 6)
 (.ops [⟨some 7, none, .ifc 9 (.const (.string ⟨#[99, 97, 110, 110, 111, 116, 32, 98, 101, 32, 110, 101, 103, 97, 116, 105, 118, 101]⟩))⟩,
 ⟨none, none, .bad⟩])
 .skip))
 (.seq (.seq (.ops [⟨some 8, none, .mov (.tmp 1)⟩,
 ⟨some 9, none, .mov (.tmp 0)⟩,
 ⟨some 10, none, .cap (.tmp 9)⟩,
 ⟨some 11, none, .mov (.tmp 0)⟩,
 ⟨some 12, none, .lnl (.tmp 11)⟩,
 ⟨some 13, none, .bin .sub (.tmp 10) (.tmp 12)⟩,
 ⟨some 14, none, .bin .sub (.tmp 8) (.tmp 13)⟩,
 ⟨some 1, none, .mov (.tmp 14)⟩])
 (.seq (.ops [⟨some 15, none, .mov (.tmp 1)⟩,
 ⟨some 16, none, .bin .gtr (.tmp 15) (.const (.int .i64 0))⟩])
 (.cond (.tmp 16)
 (.ops [⟨some 17, none, .mov (.tmp 0)⟩,
 ⟨some 18, none, .mov (.tmp 0)⟩,
 ⟨some 19, none, .cap (.tmp 18)⟩,
 ⟨some 20, none, .sl 1 (.tmp 17) none (some (.tmp 19)) none⟩,
 ⟨some 21, none, .mov (.tmp 1)⟩,
 ⟨some 22, none, .apz 24 [(.slice none 0 0)] (.tmp 20) (.tmp 21)⟩,
 ⟨some 23, none, .mov (.tmp 0)⟩,
 ⟨some 24, none, .lnl (.tmp 23)⟩,
 ⟨some 25, none, .sl 1 (.tmp 22) none (some (.tmp 24)) none⟩,
 ⟨some 0, none, .mov (.tmp 25)⟩])
 .skip)))
 (.seq (.ops [⟨some 26, none, .mov (.tmp 0)⟩,
 ⟨some 4, none, .mov (.tmp 26)⟩])
 .ret))))⟩
theorem ok190 : compF Tryz.prog Tryz.f190 = some c190 := by kernel_rfl
def c191 : CF := ⟨27, [.tmp 0],
 (.seq (.ops [⟨some 0, none, .mov (.const (.slice none 0 0))⟩])
 (.seq (.ops [⟨some 1, none, .mov (.func 224)⟩])
 (.seq (.ops [⟨some 2, none, .agg [(.string ⟨#[]⟩), (.int .i64 0), (.bool false), .nilFunc] [(0, 1, (.const (.string ⟨#[43]⟩))), (1, 1, (.const (.int .i64 2))), (2, 1, (.const (.bool true))), (3, 1, (.func 228))]⟩,
 ⟨some 3, none, .agg [(.string ⟨#[]⟩), (.int .i64 0), (.bool false), .nilFunc] [(0, 1, (.const (.string ⟨#[45]⟩))), (1, 1, (.const (.int .i64 2))), (2, 1, (.const (.bool true))), (3, 1, (.func 229))]⟩,
 ⟨some 4, none, .agg [(.string ⟨#[]⟩), (.int .i64 0), (.bool false), .nilFunc] [(0, 1, (.const (.string ⟨#[42]⟩))), (1, 1, (.const (.int .i64 2))), (2, 1, (.const (.bool true))), (3, 1, (.func 230))]⟩,
 ⟨some 5, none, .agg [(.string ⟨#[]⟩), (.int .i64 0), (.bool false), .nilFunc] [(0, 1, (.const (.string ⟨#[113, 117, 111, 116, 105, 101, 110, 116]⟩))), (1, 1, (.const (.int .i64 2))), (2, 1, (.const (.bool true))), (3, 1, (.func 231))]⟩,
 ⟨some 6, none, .agg [(.string ⟨#[]⟩), (.int .i64 0), (.bool false), .nilFunc] [(0, 1, (.const (.string ⟨#[114, 101, 109, 97, 105, 110, 100, 101, 114]⟩))), (1, 1, (.const (.int .i64 2))), (2, 1, (.const (.bool true))), (3, 1, (.func 232))]⟩,
 ⟨some 7, none, .agg [(.string ⟨#[]⟩), (.int .i64 0), (.bool false), .nilFunc] [(0, 1, (.const (.string ⟨#[61]⟩))), (1, 1, (.const (.int .i64 2))), (2, 1, (.const (.bool true))), (3, 1, (.func 233))]⟩,
 ⟨some 8, none, .agg [(.string ⟨#[]⟩), (.int .i64 0), (.bool false), .nilFunc] [(0, 1, (.const (.string ⟨#[60]⟩))), (1, 1, (.const (.int .i64 2))), (2, 1, (.const (.bool true))), (3, 1, (.func 234))]⟩,
 ⟨some 9, none, .agg [(.string ⟨#[]⟩), (.int .i64 0), (.bool false), .nilFunc] [(0, 1, (.const (.string ⟨#[99, 111, 110, 115]⟩))), (1, 1, (.const (.int .i64 2))), (2, 1, (.const (.bool false))), (3, 1, (.func 235))]⟩,
 ⟨some 10, none, .agg [(.string ⟨#[]⟩), (.int .i64 0), (.bool false), .nilFunc] [(0, 1, (.const (.string ⟨#[99, 97, 114]⟩))), (1, 1, (.const (.int .i64 1))), (2, 1, (.const (.bool false))), (3, 1, (.func 236))]⟩,
 ⟨some 11, none, .agg [(.string ⟨#[]⟩), (.int .i64 0), (.bool false), .nilFunc] [(0, 1, (.const (.string ⟨#[99, 100, 114]⟩))), (1, 1, (.const (.int .i64 1))), (2, 1, (.const (.bool false))), (3, 1, (.func 238))]⟩,
 ⟨some 12, none, .mov (.tmp 1)⟩,
 ⟨some 13, none, .call (.tmp 12) [(.const (.string ⟨#[110, 117, 108, 108, 63]⟩)), (.const (.int .i64 4))]⟩,
 ⟨some 14, none, .mov (.tmp 1)⟩,
 ⟨some 15, none, .call (.tmp 14) [(.const (.string ⟨#[112, 97, 105, 114, 63]⟩)), (.const (.int .i64 5))]⟩,
 ⟨some 16, none, .mov (.tmp 1)⟩,
 ⟨some 17, none, .call (.tmp 16) [(.const (.string ⟨#[110, 117, 109, 98, 101, 114, 63]⟩)), (.const (.int .i64 1))]⟩,
 ⟨some 18, none, .mov (.tmp 1)⟩,
 ⟨some 19, none, .call (.tmp 18) [(.const (.string ⟨#[98, 111, 111, 108, 101, 97, 110, 63]⟩)), (.const (.int .i64 2))]⟩,
 ⟨some 20, none, .mov (.tmp 1)⟩,
 ⟨some 21, none, .call (.tmp 20) [(.const (.string ⟨#[115, 121, 109, 98, 111, 108, 63]⟩)), (.const (.int .i64 3))]⟩,
 ⟨some 22, none, .mov (.tmp 1)⟩,
 ⟨some 23, none, .call (.tmp 22) [(.const (.string ⟨#[112, 114, 111, 99, 101, 100, 117, 114, 101, 63]⟩)), (.const (.int .i64 6))]⟩,
 ⟨some 24, none, .agg [(.string ⟨#[]⟩), (.int .i64 0), (.bool false), .nilFunc] [(0, 1, (.const (.string ⟨#[101, 113, 63]⟩))), (1, 1, (.const (.int .i64 2))), (2, 1, (.const (.bool false))), (3, 1, (.func 239))]⟩,
 ⟨some 25, none, .agg [(.string ⟨#[]⟩), (.int .i64 0), (.bool false), .nilFunc] [(0, 1, (.const (.string ⟨#[110, 111, 116]⟩))), (1, 1, (.const (.int .i64 1))), (2, 1, (.const (.bool false))), (3, 1, (.func 240))]⟩,
 ⟨some 26, none, .lits [(.string ⟨#[]⟩), (.int .i64 0), (.bool false), .nilFunc, (.string ⟨#[]⟩), (.int .i64 0), (.bool false), .nilFunc, (.string ⟨#[]⟩), (.int .i64 0), (.bool false), .nilFunc, (.string ⟨#[]⟩), (.int .i64 0), (.bool false), .nilFunc, (.string ⟨#[]⟩), (.int .i64 0), (.bool false), .nilFunc, (.string ⟨#[]⟩), (.int .i64 0), (.bool false), .nilFunc, (.string ⟨#[]⟩), (.int .i64 0), (.bool false), .nilFunc, (.string ⟨#[]⟩), (.int .i64 0), (.bool false), .nilFunc, (.string ⟨#[]⟩), (.int .i64 0), (.bool false), .nilFunc, (.string ⟨#[]⟩), (.int .i64 0), (.bool false), .nilFunc, (.string ⟨#[]⟩), (.int .i64 0), (.bool false), .nilFunc, (.string ⟨#[]⟩), (.int .i64 0), (.bool false), .nilFunc, (.string ⟨#[]⟩), (.int .i64 0), (.bool false), .nilFunc, (.string ⟨#[]⟩), (.int .i64 0), (.bool false), .nilFunc, (.string ⟨#[]⟩), (.int .i64 0), (.bool false), .nilFunc, (.string ⟨#[]⟩), (.int .i64 0), (.bool false), .nilFunc, (.string ⟨#[]⟩), (.int .i64 0), (.bool false), .nilFunc, (.string ⟨#[]⟩), (.int .i64 0), (.bool false), .nilFunc] 18 [(0, 4, (.tmp 2)), (4, 4, (.tmp 3)), (8, 4, (.tmp 4)), (12, 4, (.tmp 5)), (16, 4, (.tmp 6)), (20, 4, (.tmp 7)), (24, 4, (.tmp 8)), (28, 4, (.tmp 9)), (32, 4, (.tmp 10)), (36, 4, (.tmp 11)), (40, 4, (.tmp 13)), (44, 4, (.tmp 15)), (48, 4, (.tmp 17)), (52, 4, (.tmp 19)), (56, 4, (.tmp 21)), (60, 4, (.tmp 23)), (64, 4, (.tmp 24)), (68, 4, (.tmp 25))]⟩,
 ⟨some 0, none, .mov (.tmp 26)⟩])
 .ret)))⟩
theorem ok191 : compF Tryz.prog Tryz.f191 = some c191 := by kernel_rfl
def c192 : CF := ⟨19, [.tmp 4, .tmp 5],
 (.seq (.ops [⟨some 4, none, .mov (.const (.bool false))⟩,
 ⟨some 5, none, .mov (.const (.int .i64 0))⟩])
 (.seq (.seq (.ops [⟨some 7, none, .mov (.tmp 0)⟩,
 ⟨some 8, none, .mov (.tmp 1)⟩,
 ⟨some 9, none, .call (.func 93) [(.tmp 7), (.tmp 8)]⟩,
 ⟨some 6, none, .mov (.tmp 9)⟩])
 (.seq (.ops [⟨some 10, none, .mov (.tmp 6)⟩,
 ⟨some 11, none, .bin .neq (.tmp 10) (.const (.int .i64 0))⟩])
 (.cond (.tmp 11)
 (.seq (.ops [⟨some 12, none, .mov (.tmp 6)⟩,
 ⟨some 4, none, .mov (.const (.bool false))⟩,
 ⟨some 5, none, .mov (.tmp 12)⟩])
 .ret)
 .skip)))
 (.seq (.ops [⟨some 13, none, .mov (.tmp 0)⟩,
 ⟨some 14, none, .mov (.tmp 1)⟩,
 ⟨some 15, none, .iad 6 (.tmp 13) (.tmp 14)⟩,
 ⟨some 16, none, .fad (.tmp 15) 0⟩,
 ⟨some 17, none, .ld1 (.tmp 16)⟩,
 ⟨some 18, none, .call (.func 125) [(.tmp 17)]⟩,
 ⟨some 4, none, .mov (.tmp 18)⟩,
 ⟨some 5, none, .mov (.const (.int .i64 0))⟩])
 .ret)))⟩
theorem ok192 : compF Tryz.prog Tryz.f192 = some c192 := by kernel_rfl
def c193 : CF := ⟨19, [.tmp 4],
 (.seq (.ops [⟨some 4, none, .mov (.const (.int .i64 0))⟩])
 (.seq (.seq (.ops [⟨some 6, none, .mov (.tmp 0)⟩,
 ⟨some 7, none, .lnl (.tmp 6)⟩,
 ⟨some 8, none, .mov (.const (.int .i64 0))⟩])
 (.block 0 (.loop (.seq (.ops [⟨some 9, none, .bin .lss (.tmp 8) (.tmp 7)⟩])
 (.seq (.cond (.tmp 9)
 .skip
 (.exit 0))
 (.seq (.block 1 (.seq (.ops [⟨some 10, none, .mov (.tmp 8)⟩,
 ⟨some 5, none, .mov (.tmp 10)⟩])
 (.seq (.ops [⟨some 11, none, .mov (.tmp 1)⟩,
 ⟨some 12, none, .mov (.tmp 0)⟩,
 ⟨some 13, none, .mov (.tmp 5)⟩,
 ⟨some 14, none, .iad 1 (.tmp 12) (.tmp 13)⟩,
 ⟨some 15, none, .ld1 (.tmp 14)⟩,
 ⟨some 16, none, .bin .eql (.tmp 11) (.tmp 15)⟩])
 (.cond (.tmp 16)
 (.seq (.ops [⟨some 17, none, .mov (.tmp 5)⟩,
 ⟨some 4, none, .mov (.tmp 17)⟩])
 .ret)
 .skip))))
 (.ops [⟨some 18, none, .bin .add (.tmp 8) (.const (.int .i64 1))⟩,
 ⟨some 8, none, .mov (.tmp 18)⟩])))))))
 (.seq (.ops [⟨some 4, none, .mov (.const (.int .i64 (-1)))⟩])
 .ret)))⟩
theorem ok193 : compF Tryz.prog Tryz.f193 = some c193 := by kernel_rfl
def c194 : CF := ⟨14, [.tmp 2],
 (.seq (.ops [⟨some 2, none, .mov (.const (.int .i64 0))⟩])
 (.seq (.seq (.ops [⟨some 3, none, .mov (.tmp 0)⟩,
 ⟨some 4, none, .bin .eql (.tmp 3) (.const (.int .u32 0))⟩])
 (.cond (.tmp 4)
 (.seq (.ops [⟨some 2, none, .mov (.const (.int .i64 32))⟩])
 .ret)
 .skip))
 (.seq (.ops [⟨some 5, none, .mov (.tmp 0)⟩,
 ⟨some 6, none, .mov (.tmp 0)⟩,
 ⟨some 7, none, .un .neg (.tmp 6)⟩,
 ⟨some 8, none, .bin .and (.tmp 5) (.tmp 7)⟩,
 ⟨some 9, none, .bin .mul (.tmp 8) (.const (.int .u32 125613361))⟩,
 ⟨some 10, none, .bin .shr (.tmp 9) (.const (.int .u64 27))⟩,
 ⟨some 11, none, .iaa 32 1 (.global 1) (.tmp 10)⟩,
 ⟨some 12, none, .ld1 (.tmp 11)⟩,
 ⟨some 13, none, .cvi .i64 (.tmp 12)⟩,
 ⟨some 2, none, .mov (.tmp 13)⟩])
 .ret)))⟩
theorem ok194 : compF Tryz.prog Tryz.f194 = some c194 := by kernel_rfl
def c195 : CF := ⟨14, [.tmp 2],
 (.seq (.ops [⟨some 2, none, .mov (.const (.int .i64 0))⟩])
 (.seq (.seq (.ops [⟨some 3, none, .mov (.tmp 0)⟩,
 ⟨some 4, none, .bin .eql (.tmp 3) (.const (.int .u64 0))⟩])
 (.cond (.tmp 4)
 (.seq (.ops [⟨some 2, none, .mov (.const (.int .i64 64))⟩])
 .ret)
 .skip))
 (.seq (.ops [⟨some 5, none, .mov (.tmp 0)⟩,
 ⟨some 6, none, .mov (.tmp 0)⟩,
 ⟨some 7, none, .un .neg (.tmp 6)⟩,
 ⟨some 8, none, .bin .and (.tmp 5) (.tmp 7)⟩,
 ⟨some 9, none, .bin .mul (.tmp 8) (.const (.int .u64 285870213051353865))⟩,
 ⟨some 10, none, .bin .shr (.tmp 9) (.const (.int .u64 58))⟩,
 ⟨some 11, none, .iaa 64 1 (.global 2) (.tmp 10)⟩,
 ⟨some 12, none, .ld1 (.tmp 11)⟩,
 ⟨some 13, none, .cvi .i64 (.tmp 12)⟩,
 ⟨some 2, none, .mov (.tmp 13)⟩])
 .ret)))⟩
theorem ok195 : compF Tryz.prog Tryz.f195 = some c195 := by kernel_rfl
def c196 : CF := ⟨17, [.tmp 4],
 (.seq (.ops [⟨some 4, none, .mov (.const (.string ⟨#[]⟩))⟩])
 (.seq (.block 0 (.loop (.seq (.seq (.ops [⟨some 5, none, .mov (.tmp 0)⟩,
 ⟨some 6, none, .lns (.tmp 5)⟩,
 ⟨some 7, none, .bin .gtr (.tmp 6) (.const (.int .i64 0))⟩,
 ⟨some 8, none, .mov (.tmp 7)⟩,
 ⟨some 9, (some (8, true)), .mov (.tmp 0)⟩,
 ⟨some 10, (some (8, true)), .ids (.tmp 9) (.const (.int .i64 0))⟩,
 ⟨some 11, (some (8, true)), .mov (.tmp 1)⟩,
 ⟨some 12, (some (8, true)), .bin .eql (.tmp 10) (.tmp 11)⟩,
 ⟨some 13, none, .pick (.tmp 8) (.tmp 12) (.const (.bool false))⟩])
 (.cond (.tmp 13)
 .skip
 (.exit 0)))
 (.block 1 (.ops [⟨some 14, none, .mov (.tmp 0)⟩,
 ⟨some 15, none, .sls (.tmp 14) (some (.const (.int .i64 1))) none⟩,
 ⟨some 0, none, .mov (.tmp 15)⟩])))))
 (.seq (.ops [⟨some 16, none, .mov (.tmp 0)⟩,
 ⟨some 4, none, .mov (.tmp 16)⟩])
 .ret)))⟩
theorem ok196 : compF Tryz.prog Tryz.f196 = some c196 := by kernel_rfl
def c197 : CF := ⟨21, [.cells 2 256, .tmp 3],
 (.seq (.ops [⟨some 2, none, .newz [(.bool false), (.bool false), (.bool false), (.bool false), (.bool false), (.bool false), (.bool false), (.bool false), (.bool false), (.bool false), (.bool false), (.bool false), (.bool false), (.bool false), (.bool false), (.bool false), (.bool false), (.bool false), (.bool false), (.bool false), (.bool false), (.bool false), (.bool false), (.bool false), (.bool false), (.bool false), (.bool false), (.bool false), (.bool false), (.bool false), (.bool false), (.bool false), (.bool false), (.bool false), (.bool false), (.bool false), (.bool false), (.bool false), (.bool false), (.bool false), (.bool false), (.bool false), (.bool false), (.bool false), (.bool false), (.bool false), (.bool false), (.bool false), (.bool false), (.bool false), (.bool false), (.bool false), (.bool false), (.bool false), (.bool false), (.bool false), (.bool false), (.bool false), (.bool false), (.bool false), (.bool false), (.bool false), (.bool false), (.bool false), (.bool false), (.bool false), (.bool false), (.bool false), (.bool false), (.bool false), (.bool false), (.bool false), (.bool false), (.bool false), (.bool false), (.bool false), (.bool false), (.bool false), (.bool false), (.bool false), (.bool false), (.bool false), (.bool false), (.bool false), (.bool false), (.bool false), (.bool false), (.bool false), (.bool false), (.bool false), (.bool false), (.bool false), (.bool false), (.bool false), (.bool false), (.bool false), (.bool false), (.bool false), (.bool false), (.bool false), (.bool false), (.bool false), (.bool false), (.bool false), (.bool false), (.bool false), (.bool false), (.bool false), (.bool false), (.bool false), (.bool false), (.bool false), (.bool false), (.bool false), (.bool false), (.bool false), (.bool false), (.bool false), (.bool false), (.bool false), (.bool false), (.bool false), (.bool false), (.bool false), (.bool false), (.bool false), (.bool false), (.bool false), (.bool false), (.bool false), (.bool false), (.bool false), (.bool false), (.bool false), (.bool false), (.bool false), (.bool false), (.bool false), (.bool false), (.bool false), (.bool false), (.bool false), (.bool false), (.bool false), (.bool false), (.bool false), (.bool false), (.bool false), (.bool false), (.bool false), (.bool false), (.bool false), (.bool false), (.bool false), (.bool false), (.bool false), (.bool false), (.bool false), (.bool false), (.bool false), (.bool false), (.bool false), (.bool false), (.bool false), (.bool false), (.bool false), (.bool false), (.bool false), (.bool false), (.bool false), (.bool false), (.bool false), (.bool false), (.bool false), (.bool false), (.bool false), (.bool false), (.bool false), (.bool false), (.bool false), (.bool false), (.bool false), (.bool false), (.bool false), (.bool false), (.bool false), (.bool false), (.bool false), (.bool false), (.bool false), (.bool false), (.bool false), (.bool false), (.bool false), (.bool false), (.bool false), (.bool false), (.bool false), (.bool false), (.bool false), (.bool false), (.bool false), (.bool false), (.bool false), (.bool false), (.bool false), (.bool false), (.bool false), (.bool false), (.bool false), (.bool false), (.bool false), (.bool false), (.bool false), (.bool false), (.bool false), (.bool false), (.bool false), (.bool false), (.bool false), (.bool false), (.bool false), (.bool false), (.bool false), (.bool false), (.bool false), (.bool false), (.bool false), (.bool false), (.bool false), (.bool false), (.bool false), (.bool false), (.bool false), (.bool false), (.bool false), (.bool false), (.bool false), (.bool false), (.bool false), (.bool false), (.bool false), (.bool false), (.bool false), (.bool false), (.bool false), (.bool false), (.bool false), (.bool false), (.bool false), (.bool false), (.bool false), (.bool false), (.bool false), (.bool false), (.bool false)]⟩,
 ⟨some 3, none, .mov (.const (.bool false))⟩])
 (.seq (.seq (.ops [⟨some 4, none, .mov (.const (.int .i64 0))⟩])
 (.block 0 (.loop (.seq (.seq (.ops [⟨some 6, none, .mov (.tmp 4)⟩,
 ⟨some 7, none, .mov (.tmp 0)⟩,
 ⟨some 8, none, .lns (.tmp 7)⟩,
 ⟨some 9, none, .bin .lss (.tmp 6) (.tmp 8)⟩])
 (.cond (.tmp 9)
 .skip
 (.exit 0)))
 (.seq (.block 1 (.seq (.ops [⟨some 12, none, .mov (.tmp 0)⟩,
 ⟨some 13, none, .mov (.tmp 4)⟩,
 ⟨some 14, none, .ids (.tmp 12) (.tmp 13)⟩,
 ⟨some 5, none, .mov (.tmp 14)⟩])
 (.seq (.seq (.ops [⟨some 15, none, .mov (.tmp 5)⟩,
 ⟨some 16, none, .bin .geq (.tmp 15) (.const (.int .u8 128))⟩])
 (.cond (.tmp 16)
 (.seq (.ops [⟨some 17, none, .ld 256 (.tmp 2)⟩,
 ⟨none, none, .st 256 (.tmp 2) (.tmp 17)⟩,
 ⟨some 3, none, .mov (.const (.bool false))⟩])
 .ret)
 .skip))
 (.ops [⟨some 18, none, .mov (.tmp 5)⟩,
 ⟨some 19, none, .iaa 256 1 (.tmp 2) (.tmp 18)⟩,
 ⟨none, none, .st 1 (.tmp 19) (.const (.bool true))⟩]))))
 (.ops [⟨some 10, none, .mov (.tmp 4)⟩,
 ⟨some 11, none, .bin .add (.tmp 10) (.const (.int .i64 1))⟩,
 ⟨some 4, none, .mov (.tmp 11)⟩]))))))
 (.seq (.ops [⟨some 20, none, .ld 256 (.tmp 2)⟩,
 ⟨none, none, .st 256 (.tmp 2) (.tmp 20)⟩,
 ⟨some 3, none, .mov (.const (.bool true))⟩])
 .ret)))⟩
theorem ok197 : compF Tryz.prog Tryz.f197 = some c197 := by kernel_rfl
def c198 : CF := ⟨16, [.tmp 4],
 (.seq (.ops [⟨some 4, none, .mov (.const (.string ⟨#[]⟩))⟩])
 (.seq (.block 0 (.loop (.seq (.seq (.ops [⟨some 5, none, .mov (.tmp 0)⟩,
 ⟨some 6, none, .lns (.tmp 5)⟩,
 ⟨some 7, none, .bin .gtr (.tmp 6) (.const (.int .i64 0))⟩])
 (.cond (.tmp 7)
 .skip
 (.exit 0)))
 (.block 1 (.seq (.seq (.ops [⟨some 8, none, .mov (.tmp 1)⟩,
 ⟨some 9, none, .mov (.tmp 0)⟩,
 ⟨some 10, none, .ids (.tmp 9) (.const (.int .i64 0))⟩,
 ⟨some 11, none, .call (.func 241) [(.tmp 8), (.tmp 10)]⟩,
 ⟨some 12, none, .un .not (.tmp 11)⟩])
 (.cond (.tmp 12)
 (.exit 0)
 .skip))
 (.ops [⟨some 13, none, .mov (.tmp 0)⟩,
 ⟨some 14, none, .sls (.tmp 13) (some (.const (.int .i64 1))) none⟩,
 ⟨some 0, none, .mov (.tmp 14)⟩]))))))
 (.seq (.ops [⟨some 15, none, .mov (.tmp 0)⟩,
 ⟨some 4, none, .mov (.tmp 15)⟩])
 .ret)))⟩
theorem ok198 : compF Tryz.prog Tryz.f198 = some c198 := by kernel_rfl
def c199 : CF := ⟨23, [.tmp 4],
 (.seq (.ops [⟨some 4, none, .mov (.const (.string ⟨#[]⟩))⟩])
 (.seq (.block 0 (.loop (.seq (.seq (.ops [⟨some 7, none, .mov (.tmp 0)⟩,
 ⟨some 8, none, .lns (.tmp 7)⟩,
 ⟨some 9, none, .bin .gtr (.tmp 8) (.const (.int .i64 0))⟩])
 (.cond (.tmp 9)
 .skip
 (.exit 0)))
 (.block 1 (.seq (.ops [⟨some 11, none, .mov (.tmp 0)⟩,
 ⟨some 12, none, .call (.func 242) [(.tmp 11)]⟩,
 ⟨some 10, none, .mov (.tmp 12)⟩,
 ⟨some 13, none, .ext (.tmp 10) 0⟩,
 ⟨some 14, none, .ext (.tmp 10) 1⟩,
 ⟨some 5, none, .mov (.tmp 13)⟩,
 ⟨some 6, none, .mov (.tmp 14)⟩])
 (.seq (.seq (.ops [⟨some 15, none, .mov (.tmp 1)⟩,
 ⟨some 16, none, .mov (.tmp 5)⟩,
 ⟨some 17, none, .call (.func 243) [(.tmp 15), (.tmp 16)]⟩,
 ⟨some 18, none, .un .not (.tmp 17)⟩])
 (.cond (.tmp 18)
 (.exit 0)
 .skip))
 (.ops [⟨some 19, none, .mov (.tmp 0)⟩,
 ⟨some 20, none, .mov (.tmp 6)⟩,
 ⟨some 21, none, .sls (.tmp 19) (some (.tmp 20)) none⟩,
 ⟨some 0, none, .mov (.tmp 21)⟩])))))))
 (.seq (.ops [⟨some 22, none, .mov (.tmp 0)⟩,
 ⟨some 4, none, .mov (.tmp 22)⟩])
 .ret)))⟩
theorem ok199 : compF Tryz.prog Tryz.f199 = some c199 := by kernel_rfl
def c200 : CF := ⟨13, [.tmp 4],
 (.seq (.ops [⟨some 4, none, .mov (.const (.string ⟨#[]⟩))⟩])
 (.seq (.seq (.ops [⟨some 5, none, .mov (.tmp 0)⟩,
 ⟨some 6, none, .mov (.tmp 1)⟩,
 ⟨some 7, none, .call (.func 202) [(.tmp 5), (.tmp 6)]⟩])
 (.cond (.tmp 7)
 (.seq (.ops [⟨some 8, none, .mov (.tmp 0)⟩,
 ⟨some 9, none, .mov (.tmp 1)⟩,
 ⟨some 10, none, .lns (.tmp 9)⟩,
 ⟨some 11, none, .sls (.tmp 8) (some (.tmp 10)) none⟩,
 ⟨some 4, none, .mov (.tmp 11)⟩])
 .ret)
 .skip))
 (.seq (.ops [⟨some 12, none, .mov (.tmp 0)⟩,
 ⟨some 4, none, .mov (.tmp 12)⟩])
 .ret)))⟩
theorem ok200 : compF Tryz.prog Tryz.f200 = some c200 := by kernel_rfl
def c201 : CF := ⟨55, [.tmp 4],
 (.seq (.ops [⟨some 4, none, .mov (.const (.int .i64 0))⟩])
 (.seq (.seq (.ops [⟨some 11, none, .mov (.tmp 1)⟩,
 ⟨some 12, none, .bin .eql (.tmp 11) (.const (.string ⟨#[]⟩))⟩])
 (.cond (.tmp 12)
 (.seq (.ops [⟨some 4, none, .mov (.const (.int .i64 (-1)))⟩])
 .ret)
 .skip))
 (.seq (.seq (.ops [⟨some 13, none, .mov (.tmp 1)⟩,
 ⟨some 14, none, .lns (.tmp 13)⟩,
 ⟨some 15, none, .bin .eql (.tmp 14) (.const (.int .i64 1))⟩])
 (.cond (.tmp 15)
 (.seq (.ops [⟨some 16, none, .mov (.tmp 1)⟩,
 ⟨some 17, none, .ids (.tmp 16) (.const (.int .i64 0))⟩,
 ⟨some 18, none, .cvi .i32 (.tmp 17)⟩,
 ⟨some 5, none, .mov (.tmp 18)⟩])
 (.seq (.seq (.ops [⟨some 19, none, .mov (.tmp 5)⟩,
 ⟨some 20, none, .bin .geq (.tmp 19) (.const (.int .i32 128))⟩])
 (.cond (.tmp 20)
 (.ops [⟨some 5, none, .mov (.const (.int .i32 65533))⟩])
 .skip))
 (.seq (.ops [⟨some 21, none, .mov (.tmp 0)⟩,
 ⟨some 22, none, .mov (.tmp 5)⟩,
 ⟨some 23, none, .call (.func 244) [(.tmp 21), (.tmp 22)]⟩,
 ⟨some 4, none, .mov (.tmp 23)⟩])
 .ret)))
 .skip))
 (.seq (.seq (.ops [⟨some 24, none, .mov (.tmp 0)⟩,
 ⟨some 25, none, .lns (.tmp 24)⟩,
 ⟨some 26, none, .call (.func 245) [(.tmp 25)]⟩])
 (.cond (.tmp 26)
 (.seq (.ops [⟨some 28, none, .mov (.tmp 1)⟩,
 ⟨some 29, none, .call (.func 197) [(.tmp 28)]⟩,
 ⟨some 27, none, .mov (.tmp 29)⟩,
 ⟨some 30, none, .ext (.tmp 27) 0⟩,
 ⟨some 31, none, .ext (.tmp 27) 1⟩,
 ⟨some 6, none, .newz [(.bool false), (.bool false), (.bool false), (.bool false), (.bool false), (.bool false), (.bool false), (.bool false), (.bool false), (.bool false), (.bool false), (.bool false), (.bool false), (.bool false), (.bool false), (.bool false), (.bool false), (.bool false), (.bool false), (.bool false), (.bool false), (.bool false), (.bool false), (.bool false), (.bool false), (.bool false), (.bool false), (.bool false), (.bool false), (.bool false), (.bool false), (.bool false), (.bool false), (.bool false), (.bool false), (.bool false), (.bool false), (.bool false), (.bool false), (.bool false), (.bool false), (.bool false), (.bool false), (.bool false), (.bool false), (.bool false), (.bool false), (.bool false), (.bool false), (.bool false), (.bool false), (.bool false), (.bool false), (.bool false), (.bool false), (.bool false), (.bool false), (.bool false), (.bool false), (.bool false), (.bool false), (.bool false), (.bool false), (.bool false), (.bool false), (.bool false), (.bool false), (.bool false), (.bool false), (.bool false), (.bool false), (.bool false), (.bool false), (.bool false), (.bool false), (.bool false), (.bool false), (.bool false), (.bool false), (.bool false), (.bool false), (.bool false), (.bool false), (.bool false), (.bool false), (.bool false), (.bool false), (.bool false), (.bool false), (.bool false), (.bool false), (.bool false), (.bool false), (.bool false), (.bool false), (.bool false), (.bool false), (.bool false), (.bool false), (.bool false), (.bool false), (.bool false), (.bool false), (.bool false), (.bool false), (.bool false), (.bool false), (.bool false), (.bool false), (.bool false), (.bool false), (.bool false), (.bool false), (.bool false), (.bool false), (.bool false), (.bool false), (.bool false), (.bool false), (.bool false), (.bool false), (.bool false), (.bool false), (.bool false), (.bool false), (.bool false), (.bool false), (.bool false), (.bool false), (.bool false), (.bool false), (.bool false), (.bool false), (.bool false), (.bool false), (.bool false), (.bool false), (.bool false), (.bool false), (.bool false), (.bool false), (.bool false), (.bool false), (.bool false), (.bool false), (.bool false), (.bool false), (.bool false), (.bool false), (.bool false), (.bool false), (.bool false), (.bool false), (.bool false), (.bool false), (.bool false), (.bool false), (.bool false), (.bool false), (.bool false), (.bool false), (.bool false), (.bool false), (.bool false), (.bool false), (.bool false), (.bool false), (.bool false), (.bool false), (.bool false), (.bool false), (.bool false), (.bool false), (.bool false), (.bool false), (.bool false), (.bool false), (.bool false), (.bool false), (.bool false), (.bool false), (.bool false), (.bool false), (.bool false), (.bool false), (.bool false), (.bool false), (.bool false), (.bool false), (.bool false), (.bool false), (.bool false), (.bool false), (.bool false), (.bool false), (.bool false), (.bool false), (.bool false), (.bool false), (.bool false), (.bool false), (.bool false), (.bool false), (.bool false), (.bool false), (.bool false), (.bool false), (.bool false), (.bool false), (.bool false), (.bool false), (.bool false), (.bool false), (.bool false), (.bool false), (.bool false), (.bool false), (.bool false), (.bool false), (.bool false), (.bool false), (.bool false), (.bool false), (.bool false), (.bool false), (.bool false), (.bool false), (.bool false), (.bool false), (.bool false), (.bool false), (.bool false), (.bool false), (.bool false), (.bool false), (.bool false), (.bool false), (.bool false), (.bool false), (.bool false), (.bool false), (.bool false), (.bool false), (.bool false), (.bool false), (.bool false), (.bool false), (.bool false), (.bool false), (.bool false), (.bool false), (.bool false), (.bool false), (.bool false), (.bool false), (.bool false)]⟩,
 ⟨none, none, .st 256 (.tmp 6) (.tmp 30)⟩,
 ⟨some 7, none, .mov (.tmp 31)⟩])
 (.seq (.ops [⟨some 32, none, .mov (.tmp 7)⟩])
 (.cond (.tmp 32)
 (.seq (.seq (.ops [⟨some 8, none, .mov (.const (.int .i64 0))⟩])
 (.block 0 (.loop (.seq (.seq (.ops [⟨some 33, none, .mov (.tmp 8)⟩,
 ⟨some 34, none, .mov (.tmp 0)⟩,
 ⟨some 35, none, .lns (.tmp 34)⟩,
 ⟨some 36, none, .bin .lss (.tmp 33) (.tmp 35)⟩])
 (.cond (.tmp 36)
 .skip
 (.exit 0)))
 (.seq (.block 1 (.seq (.ops [⟨some 39, none, .mov (.tmp 0)⟩,
 ⟨some 40, none, .mov (.tmp 8)⟩,
 ⟨some 41, none, .ids (.tmp 39) (.tmp 40)⟩,
 ⟨some 42, none, .call (.func 241) [(.tmp 6), (.tmp 41)]⟩])
 (.cond (.tmp 42)
 (.seq (.ops [⟨some 43, none, .mov (.tmp 8)⟩,
 ⟨some 4, none, .mov (.tmp 43)⟩])
 .ret)
 .skip)))
 (.ops [⟨some 37, none, .mov (.tmp 8)⟩,
 ⟨some 38, none, .bin .add (.tmp 37) (.const (.int .i64 1))⟩,
 ⟨some 8, none, .mov (.tmp 38)⟩]))))))
 (.seq (.ops [⟨some 4, none, .mov (.const (.int .i64 (-1)))⟩])
 .ret))
 .skip)))
 .skip))
 (.seq (.seq (.ops [⟨some 44, none, .mov (.tmp 0)⟩,
 ⟨some 45, none, .itr (.tmp 44)⟩])
 (.block 2 (.loop (.seq (.ops [⟨some 46, none, .nxt (.tmp 45)⟩,
 ⟨some 47, none, .ext (.tmp 46) 0⟩])
 (.seq (.cond (.tmp 47)
 .skip
 (.exit 2))
 (.block 3 (.seq (.ops [⟨some 48, none, .ext (.tmp 46) 1⟩,
 ⟨some 49, none, .ext (.tmp 46) 2⟩,
 ⟨some 9, none, .mov (.tmp 48)⟩,
 ⟨some 10, none, .mov (.tmp 49)⟩])
 (.seq (.ops [⟨some 50, none, .mov (.tmp 1)⟩,
 ⟨some 51, none, .mov (.tmp 10)⟩,
 ⟨some 52, none, .call (.func 244) [(.tmp 50), (.tmp 51)]⟩,
 ⟨some 53, none, .bin .geq (.tmp 52) (.const (.int .i64 0))⟩])
 (.cond (.tmp 53)
 (.seq (.ops [⟨some 54, none, .mov (.tmp 9)⟩,
 ⟨some 4, none, .mov (.tmp 54)⟩])
 .ret)
 .skip)))))))))
 (.seq (.ops [⟨some 4, none, .mov (.const (.int .i64 (-1)))⟩])
 .ret))))))⟩
theorem ok201 : compF Tryz.prog Tryz.f201 = some c201 := by kernel_rfl
def c202 : CF := ⟨18, [.tmp 4],
 (.seq (.ops [⟨some 4, none, .mov (.const (.bool false))⟩])
 (.seq (.ops [⟨some 5, none, .mov (.tmp 0)⟩,
 ⟨some 6, none, .lns (.tmp 5)⟩,
 ⟨some 7, none, .mov (.tmp 1)⟩,
 ⟨some 8, none, .lns (.tmp 7)⟩,
 ⟨some 9, none, .bin .geq (.tmp 6) (.tmp 8)⟩,
 ⟨some 10, none, .mov (.tmp 9)⟩,
 ⟨some 11, (some (10, true)), .mov (.tmp 0)⟩,
 ⟨some 12, (some (10, true)), .mov (.tmp 1)⟩,
 ⟨some 13, (some (10, true)), .lns (.tmp 12)⟩,
 ⟨some 14, (some (10, true)), .sls (.tmp 11) none (some (.tmp 13))⟩,
 ⟨some 15, (some (10, true)), .mov (.tmp 1)⟩,
 ⟨some 16, (some (10, true)), .bin .eql (.tmp 14) (.tmp 15)⟩,
 ⟨some 17, none, .pick (.tmp 10) (.tmp 16) (.const (.bool false))⟩,
 ⟨some 4, none, .mov (.tmp 17)⟩])
 .ret))⟩
theorem ok202 : compF Tryz.prog Tryz.f202 = some c202 := by kernel_rfl
def c203 : CF := ⟨30, [.cell1 2, .tmp 3],
 (.seq (.ops [⟨some 2, none, .newz [(.int .i64 0)]⟩,
 ⟨some 3, none, .mov (.const (.int .i64 0))⟩])
 (.seq (.seq (.ops [⟨some 6, none, .mov (.tmp 0)⟩,
 ⟨some 7, none, .lnl (.tmp 6)⟩,
 ⟨some 8, none, .bin .gtr (.tmp 7) (.const (.int .i64 8000))⟩])
 (.cond (.tmp 8)
 (.seq (.ops [⟨none, none, .st 1 (.tmp 2) (.const (.int .i64 0))⟩,
 ⟨some 3, none, .mov (.const (.int .i64 3))⟩])
 .ret)
 .skip))
 (.seq (.seq (.ops [⟨some 9, none, .mov (.tmp 0)⟩,
 ⟨some 10, none, .call (.func 204) [(.tmp 9)]⟩])
 (.block 0 (.rangeF (.tmp 10) [11, 12]
 (.seq (.ops [⟨some 4, none, .mov (.tmp 11)⟩])
 (.ops [⟨some 5, none, .mov (.tmp 12)⟩]))
 (.block 1 (.ops [⟨some 13, none, .mov (.tmp 4)⟩,
 ⟨some 14, none, .mov (.tmp 5)⟩,
 ⟨some 15, none, .call (.func 246) [(.tmp 14)]⟩,
 ⟨some 16, none, .bin .add (.tmp 13) (.tmp 15)⟩,
 ⟨none, none, .st 1 (.tmp 2) (.tmp 16)⟩])))))
 (.seq (.seq (.ops [⟨some 17, none, .ld1 (.tmp 2)⟩,
 ⟨some 18, none, .mov (.tmp 0)⟩,
 ⟨some 19, none, .lnl (.tmp 18)⟩,
 ⟨some 20, none, .bin .lss (.tmp 17) (.tmp 19)⟩])
 (.cond (.tmp 20)
 (.ops [⟨some 22, none, .mov (.tmp 0)⟩,
 ⟨some 23, none, .ld1 (.tmp 2)⟩,
 ⟨some 24, none, .call (.func 247) [(.tmp 22), (.tmp 23)]⟩,
 ⟨some 21, none, .mov (.tmp 24)⟩,
 ⟨some 25, none, .ext (.tmp 21) 0⟩,
 ⟨some 26, none, .ext (.tmp 21) 1⟩,
 ⟨some 27, none, .ext (.tmp 21) 2⟩,
 ⟨some 3, none, .mov (.tmp 27)⟩])
 .skip))
 (.seq (.ops [⟨some 28, none, .ld1 (.tmp 2)⟩,
 ⟨some 29, none, .mov (.tmp 3)⟩,
 ⟨none, none, .st 1 (.tmp 2) (.tmp 28)⟩,
 ⟨some 3, none, .mov (.tmp 29)⟩])
 .ret)))))⟩
theorem ok203 : compF Tryz.prog Tryz.f203 = some c203 := by kernel_rfl
def c204 : CF := ⟨4, [.tmp 2],
 (.seq (.ops [⟨some 1, none, .box (.tmp 0)⟩,
 ⟨some 2, none, .mov (.const .nilFunc)⟩])
 (.seq (.ops [⟨some 3, none, .fn 248 [] [(.tmp 1)]⟩,
 ⟨some 2, none, .mov (.tmp 3)⟩])
 .ret))⟩
theorem ok204 : compF Tryz.prog Tryz.f204 = some c204 := by kernel_rfl
def c205 : CF := ⟨5, [.tmp 2],
 (.seq (.ops [⟨some 2, none, .mov (.const (.bool false))⟩])
 (.seq (.ops [⟨some 3, none, .mov (.tmp 0)⟩,
 ⟨some 4, none, .call (.func 249) [(.tmp 3)]⟩,
 ⟨some 2, none, .mov (.tmp 4)⟩])
 .ret))⟩
theorem ok205 : compF Tryz.prog Tryz.f205 = some c205 := by kernel_rfl
def c206 : CF := ⟨2, [.cells 0 10],
 (.seq (.ops [⟨some 0, none, .newz [(.string ⟨#[]⟩), (.string ⟨#[]⟩), (.string ⟨#[]⟩), (.string ⟨#[]⟩), (.string ⟨#[]⟩), (.string ⟨#[]⟩), (.string ⟨#[]⟩), (.string ⟨#[]⟩), (.string ⟨#[]⟩), (.string ⟨#[]⟩)]⟩])
 (.seq (.ops [⟨some 1, none, .agg [(.string ⟨#[]⟩), (.string ⟨#[]⟩), (.string ⟨#[]⟩), (.string ⟨#[]⟩), (.string ⟨#[]⟩), (.string ⟨#[]⟩), (.string ⟨#[]⟩), (.string ⟨#[]⟩), (.string ⟨#[]⟩), (.string ⟨#[]⟩)] [(1, 1, (.const (.string ⟨#[9, 10, 13, 32]⟩))), (2, 1, (.const (.string ⟨#[40, 91]⟩))), (3, 1, (.const (.string ⟨#[41, 93]⟩))), (4, 1, (.const (.string ⟨#[39]⟩))), (5, 1, (.const (.string ⟨#[35]⟩))), (6, 1, (.const (.string ⟨#[59]⟩))), (8, 1, (.const (.string ⟨#[43, 45]⟩))), (9, 1, (.const (.string ⟨#[33, 36, 37, 38, 42, 47, 58, 60, 61, 62, 63, 94, 95, 126, 46, 64]⟩)))]⟩,
 ⟨none, none, .st 10 (.tmp 0) (.tmp 1)⟩])
 .ret))⟩
theorem ok206 : compF Tryz.prog Tryz.f206 = some c206 := by kernel_rfl
def c207 : CF := ⟨15, [.tmp 4],
 (.seq (.ops [⟨some 4, none, .mov (.const (.bool false))⟩])
 (.seq (.seq (.ops [⟨some 7, none, .mov (.tmp 0)⟩,
 ⟨some 8, none, .itr (.tmp 7)⟩])
 (.block 0 (.loop (.seq (.ops [⟨some 9, none, .nxt (.tmp 8)⟩,
 ⟨some 10, none, .ext (.tmp 9) 0⟩])
 (.seq (.cond (.tmp 10)
 .skip
 (.exit 0))
 (.block 1 (.seq (.ops [⟨some 11, none, .ext (.tmp 9) 2⟩,
 ⟨some 6, none, .mov (.tmp 11)⟩])
 (.seq (.ops [⟨some 12, none, .mov (.tmp 6)⟩,
 ⟨some 13, none, .mov (.tmp 1)⟩,
 ⟨some 14, none, .bin .eql (.tmp 12) (.tmp 13)⟩])
 (.cond (.tmp 14)
 (.seq (.ops [⟨some 4, none, .mov (.const (.bool true))⟩])
 .ret)
 .skip)))))))))
 (.seq (.ops [⟨some 4, none, .mov (.const (.bool false))⟩])
 .ret)))⟩
theorem ok207 : compF Tryz.prog Tryz.f207 = some c207 := by kernel_rfl
def c208 : CF := ⟨19, [],
 (.seq (.ops [⟨some 4, none, .ld1 (.tmp 1)⟩,
 ⟨some 5, none, .lnl (.tmp 4)⟩,
 ⟨some 6, none, .bin .sub (.tmp 5) (.const (.int .i64 1))⟩,
 ⟨some 3, none, .mov (.tmp 6)⟩])
 (.block 0 (.loop (.seq (.seq (.ops [⟨some 7, none, .mov (.tmp 3)⟩,
 ⟨some 8, none, .bin .geq (.tmp 7) (.const (.int .i64 0))⟩])
 (.cond (.tmp 8)
 .skip
 (.exit 0)))
 (.seq (.block 1 (.seq (.ops [⟨some 11, none, .mov (.tmp 0)⟩,
 ⟨some 12, none, .mov (.tmp 3)⟩,
 ⟨some 13, none, .ld1 (.tmp 1)⟩,
 ⟨some 14, none, .mov (.tmp 3)⟩,
 ⟨some 15, none, .iad 1 (.tmp 13) (.tmp 14)⟩,
 ⟨some 16, none, .ld1 (.tmp 15)⟩,
 ⟨some 17, none, .call (.tmp 11) [(.tmp 12), (.tmp 16)]⟩,
 ⟨some 18, none, .un .not (.tmp 17)⟩])
 (.cond (.tmp 18)
 .ret
 .skip)))
 (.ops [⟨some 9, none, .mov (.tmp 3)⟩,
 ⟨some 10, none, .bin .sub (.tmp 9) (.const (.int .i64 1))⟩,
 ⟨some 3, none, .mov (.tmp 10)⟩]))))))⟩
theorem ok208 : compF Tryz.prog Tryz.f208 = some c208 := by kernel_rfl
def c209 : CF := ⟨49, [],
 (.seq (.ops [⟨some 8, none, .mov (.tmp 1)⟩,
 ⟨some 9, none, .bin .add (.tmp 8) (.const (.int .i64 1))⟩,
 ⟨some 6, none, .mov (.tmp 9)⟩])
 (.block 0 (.loop (.seq (.seq (.ops [⟨some 10, none, .mov (.tmp 6)⟩,
 ⟨some 11, none, .mov (.tmp 2)⟩,
 ⟨some 12, none, .bin .lss (.tmp 10) (.tmp 11)⟩])
 (.cond (.tmp 12)
 .skip
 (.exit 0)))
 (.seq (.block 1 (.seq (.ops [⟨some 15, none, .mov (.tmp 6)⟩,
 ⟨some 7, none, .mov (.tmp 15)⟩])
 (.block 2 (.loop (.seq (.seq (.draw [⟨some 16, none, .mov (.tmp 7)⟩,
 ⟨some 17, none, .mov (.tmp 1)⟩,
 ⟨some 18, none, .bin .gtr (.tmp 16) (.tmp 17)⟩,
 ⟨some 19, none, .mov (.tmp 18)⟩,
 ⟨some 20, (some (19, true)), .mov (.tmp 0)⟩,
 ⟨some 21, (some (19, true)), .mov (.tmp 7)⟩,
 ⟨some 22, (some (19, true)), .iad 1 (.tmp 20) (.tmp 21)⟩,
 ⟨some 23, (some (19, true)), .ld1 (.tmp 22)⟩,
 ⟨some 24, (some (19, true)), .mov (.tmp 0)⟩,
 ⟨some 25, (some (19, true)), .mov (.tmp 7)⟩,
 ⟨some 26, (some (19, true)), .bin .sub (.tmp 25) (.const (.int .i64 1))⟩,
 ⟨some 27, (some (19, true)), .iad 1 (.tmp 24) (.tmp 26)⟩,
 ⟨some 28, (some (19, true)), .ld1 (.tmp 27)⟩,
 ⟨some 29, (some (19, true)), .call (.func 215) [(.tmp 23), (.tmp 28)]⟩,
 ⟨some 30, none, .pick (.tmp 19) (.tmp 29) (.const (.bool false))⟩] [(0, 1), (4, 5), (4, 8), (5, 8), (6, 8), (7, 8), (4, 9), (5, 9), (6, 9), (7, 9), (8, 9), (4, 10), (5, 10), (6, 10), (7, 10), (8, 10), (4, 11), (5, 11), (6, 11), (7, 11), (4, 12), (5, 12), (6, 12), (7, 12)])
 (.cond (.tmp 30)
 .skip
 (.exit 2)))
 (.seq (.block 3 (.draw [⟨some 33, none, .mov (.tmp 0)⟩,
 ⟨some 34, none, .mov (.tmp 7)⟩,
 ⟨some 35, none, .mov (.tmp 0)⟩,
 ⟨some 36, none, .mov (.tmp 7)⟩,
 ⟨some 37, none, .bin .sub (.tmp 36) (.const (.int .i64 1))⟩,
 ⟨some 38, none, .mov (.tmp 0)⟩,
 ⟨some 39, none, .mov (.tmp 7)⟩,
 ⟨some 40, none, .bin .sub (.tmp 39) (.const (.int .i64 1))⟩,
 ⟨some 41, none, .iad 1 (.tmp 38) (.tmp 40)⟩,
 ⟨some 42, none, .ld1 (.tmp 41)⟩,
 ⟨some 43, none, .mov (.tmp 0)⟩,
 ⟨some 44, none, .mov (.tmp 7)⟩,
 ⟨some 45, none, .iad 1 (.tmp 43) (.tmp 44)⟩,
 ⟨some 46, none, .ld1 (.tmp 45)⟩,
 ⟨some 47, none, .iad 1 (.tmp 33) (.tmp 34)⟩,
 ⟨none, none, .st 1 (.tmp 47) (.tmp 42)⟩,
 ⟨some 48, none, .iad 1 (.tmp 35) (.tmp 37)⟩,
 ⟨none, none, .st 1 (.tmp 48) (.tmp 46)⟩] [(0, 1), (0, 2), (1, 2), (0, 3), (1, 3), (2, 3), (0, 4), (1, 4), (2, 4), (0, 5), (1, 5), (2, 5), (3, 5), (4, 5), (0, 6), (1, 6), (2, 6), (3, 6), (4, 6), (5, 6), (0, 7), (1, 7), (2, 7), (3, 7), (4, 7), (5, 7), (0, 8), (1, 8), (2, 8), (3, 8), (4, 8), (0, 9), (1, 9), (2, 9), (3, 9), (4, 9), (0, 10), (1, 10), (2, 10), (3, 10), (4, 10), (5, 10), (6, 10), (7, 10), (8, 10), (9, 10), (0, 11), (1, 11), (2, 11), (3, 11), (4, 11), (5, 11), (6, 11), (7, 11), (8, 11), (9, 11), (10, 11), (0, 12), (1, 12), (2, 12), (3, 12), (4, 12), (5, 12), (6, 12), (7, 12), (8, 12), (9, 12), (0, 13), (1, 13), (2, 13), (3, 13), (4, 13), (5, 13), (6, 13), (7, 13), (8, 13), (9, 13), (2, 14), (3, 14), (4, 14), (2, 15), (3, 15), (4, 15)]))
 (.ops [⟨some 31, none, .mov (.tmp 7)⟩,
 ⟨some 32, none, .bin .sub (.tmp 31) (.const (.int .i64 1))⟩,
 ⟨some 7, none, .mov (.tmp 32)⟩])))))))
 (.ops [⟨some 13, none, .mov (.tmp 6)⟩,
 ⟨some 14, none, .bin .add (.tmp 13) (.const (.int .i64 1))⟩,
 ⟨some 6, none, .mov (.tmp 14)⟩]))))))⟩
theorem ok209 : compF Tryz.prog Tryz.f209 = some c209 := by kernel_rfl
def c210 : CF := ⟨56, [],
 (.seq (.ops [⟨some 11, none, .mov (.tmp 1)⟩,
 ⟨some 6, none, .mov (.tmp 11)⟩])
 (.seq (.ops [⟨some 7, none, .mov (.const (.int .i64 0))⟩])
 (.seq (.ops [⟨some 12, none, .mov (.tmp 2)⟩,
 ⟨some 13, none, .mov (.tmp 1)⟩,
 ⟨some 14, none, .bin .sub (.tmp 12) (.tmp 13)⟩,
 ⟨some 8, none, .mov (.tmp 14)⟩])
 (.seq (.seq (.ops [⟨some 15, none, .mov (.tmp 8)⟩,
 ⟨some 16, none, .bin .sub (.tmp 15) (.const (.int .i64 1))⟩,
 ⟨some 17, none, .bin .quo (.tmp 16) (.const (.int .i64 2))⟩,
 ⟨some 9, none, .mov (.tmp 17)⟩])
 (.block 0 (.loop (.seq (.seq (.ops [⟨some 18, none, .mov (.tmp 9)⟩,
 ⟨some 19, none, .bin .geq (.tmp 18) (.const (.int .i64 0))⟩])
 (.cond (.tmp 19)
 .skip
 (.exit 0)))
 (.seq (.block 1 (.ops [⟨some 22, none, .mov (.tmp 0)⟩,
 ⟨some 23, none, .mov (.tmp 9)⟩,
 ⟨some 24, none, .mov (.tmp 8)⟩,
 ⟨some 25, none, .mov (.tmp 6)⟩,
 ⟨some 26, none, .call (.func 250) [(.tmp 22), (.tmp 23), (.tmp 24), (.tmp 25)]⟩]))
 (.ops [⟨some 20, none, .mov (.tmp 9)⟩,
 ⟨some 21, none, .bin .sub (.tmp 20) (.const (.int .i64 1))⟩,
 ⟨some 9, none, .mov (.tmp 21)⟩]))))))
 (.seq (.ops [⟨some 27, none, .mov (.tmp 8)⟩,
 ⟨some 28, none, .bin .sub (.tmp 27) (.const (.int .i64 1))⟩,
 ⟨some 10, none, .mov (.tmp 28)⟩])
 (.block 2 (.loop (.seq (.seq (.ops [⟨some 29, none, .mov (.tmp 10)⟩,
 ⟨some 30, none, .bin .geq (.tmp 29) (.const (.int .i64 0))⟩])
 (.cond (.tmp 30)
 .skip
 (.exit 2)))
 (.seq (.block 3 (.seq (.draw [⟨some 33, none, .mov (.tmp 0)⟩,
 ⟨some 34, none, .mov (.tmp 6)⟩,
 ⟨some 35, none, .mov (.tmp 0)⟩,
 ⟨some 36, none, .mov (.tmp 6)⟩,
 ⟨some 37, none, .mov (.tmp 10)⟩,
 ⟨some 38, none, .bin .add (.tmp 36) (.tmp 37)⟩,
 ⟨some 39, none, .mov (.tmp 0)⟩,
 ⟨some 40, none, .mov (.tmp 6)⟩,
 ⟨some 41, none, .mov (.tmp 10)⟩,
 ⟨some 42, none, .bin .add (.tmp 40) (.tmp 41)⟩,
 ⟨some 43, none, .iad 1 (.tmp 39) (.tmp 42)⟩,
 ⟨some 44, none, .ld1 (.tmp 43)⟩,
 ⟨some 45, none, .mov (.tmp 0)⟩,
 ⟨some 46, none, .mov (.tmp 6)⟩,
 ⟨some 47, none, .iad 1 (.tmp 45) (.tmp 46)⟩,
 ⟨some 48, none, .ld1 (.tmp 47)⟩,
 ⟨some 49, none, .iad 1 (.tmp 33) (.tmp 34)⟩,
 ⟨none, none, .st 1 (.tmp 49) (.tmp 44)⟩,
 ⟨some 50, none, .iad 1 (.tmp 35) (.tmp 38)⟩,
 ⟨none, none, .st 1 (.tmp 50) (.tmp 48)⟩] [(0, 1), (0, 2), (1, 2), (0, 3), (1, 3), (2, 3), (0, 4), (1, 4), (2, 4), (3, 4), (0, 5), (1, 5), (2, 5), (0, 6), (1, 6), (2, 6), (3, 6), (4, 6), (5, 6), (0, 7), (1, 7), (2, 7), (3, 7), (4, 7), (5, 7), (6, 7), (0, 8), (1, 8), (2, 8), (3, 8), (4, 8), (5, 8), (6, 8), (7, 8), (0, 9), (1, 9), (2, 9), (3, 9), (4, 9), (5, 9), (6, 9), (0, 10), (1, 10), (2, 10), (3, 10), (4, 10), (5, 10), (0, 11), (1, 11), (2, 11), (3, 11), (4, 11), (5, 11), (0, 12), (1, 12), (2, 12), (3, 12), (4, 12), (5, 12), (6, 12), (7, 12), (8, 12), (9, 12), (10, 12), (11, 12), (0, 13), (1, 13), (2, 13), (3, 13), (4, 13), (5, 13), (6, 13), (7, 13), (8, 13), (9, 13), (10, 13), (11, 13), (12, 13), (0, 14), (1, 14), (2, 14), (3, 14), (4, 14), (5, 14), (6, 14), (7, 14), (8, 14), (9, 14), (10, 14), (11, 14), (0, 15), (1, 15), (2, 15), (3, 15), (4, 15), (5, 15), (6, 15), (7, 15), (8, 15), (9, 15), (10, 15), (11, 15), (2, 16), (3, 16), (4, 16), (5, 16), (2, 17), (3, 17), (4, 17), (5, 17)])
 (.ops [⟨some 51, none, .mov (.tmp 0)⟩,
 ⟨some 52, none, .mov (.tmp 7)⟩,
 ⟨some 53, none, .mov (.tmp 10)⟩,
 ⟨some 54, none, .mov (.tmp 6)⟩,
 ⟨some 55, none, .call (.func 250) [(.tmp 51), (.tmp 52), (.tmp 53), (.tmp 54)]⟩])))
 (.ops [⟨some 31, none, .mov (.tmp 10)⟩,
 ⟨some 32, none, .bin .sub (.tmp 31) (.const (.int .i64 1))⟩,
 ⟨some 10, none, .mov (.tmp 32)⟩]))))))))))⟩
theorem ok210 : compF Tryz.prog Tryz.f210 = some c210 := by kernel_rfl
def c211 : CF := ⟨65, [],
 (.seq (.ops [⟨some 11, none, .mov (.tmp 2)⟩,
 ⟨some 12, none, .mov (.tmp 1)⟩,
 ⟨some 13, none, .bin .sub (.tmp 11) (.tmp 12)⟩,
 ⟨some 6, none, .mov (.tmp 13)⟩])
 (.seq (.ops [⟨some 14, none, .mov (.tmp 6)⟩,
 ⟨some 15, none, .bin .geq (.tmp 14) (.const (.int .i64 8))⟩])
 (.cond (.tmp 15)
 (.seq (.ops [⟨some 16, none, .mov (.tmp 6)⟩,
 ⟨some 17, none, .cvi .u64 (.tmp 16)⟩,
 ⟨some 7, none, .newz [(.int .u64 0)]⟩,
 ⟨none, none, .st 1 (.tmp 7) (.tmp 17)⟩])
 (.seq (.ops [⟨some 18, none, .mov (.tmp 6)⟩,
 ⟨some 19, none, .call (.func 251) [(.tmp 18)]⟩,
 ⟨some 8, none, .mov (.tmp 19)⟩])
 (.seq (.ops [⟨some 20, none, .mov (.tmp 1)⟩,
 ⟨some 21, none, .mov (.tmp 6)⟩,
 ⟨some 22, none, .bin .quo (.tmp 21) (.const (.int .i64 4))⟩,
 ⟨some 23, none, .bin .mul (.tmp 22) (.const (.int .i64 2))⟩,
 ⟨some 24, none, .bin .add (.tmp 20) (.tmp 23)⟩,
 ⟨some 25, none, .bin .sub (.tmp 24) (.const (.int .i64 1))⟩,
 ⟨some 9, none, .mov (.tmp 25)⟩])
 (.block 0 (.loop (.seq (.seq (.ops [⟨some 26, none, .mov (.tmp 9)⟩,
 ⟨some 27, none, .mov (.tmp 1)⟩,
 ⟨some 28, none, .mov (.tmp 6)⟩,
 ⟨some 29, none, .bin .quo (.tmp 28) (.const (.int .i64 4))⟩,
 ⟨some 30, none, .bin .mul (.tmp 29) (.const (.int .i64 2))⟩,
 ⟨some 31, none, .bin .add (.tmp 27) (.tmp 30)⟩,
 ⟨some 32, none, .bin .add (.tmp 31) (.const (.int .i64 1))⟩,
 ⟨some 33, none, .bin .leq (.tmp 26) (.tmp 32)⟩])
 (.cond (.tmp 33)
 .skip
 (.exit 0)))
 (.seq (.block 1 (.seq (.ops [⟨some 36, none, .call (.func 252) [(.tmp 7)]⟩,
 ⟨some 37, none, .mov (.tmp 8)⟩,
 ⟨some 38, none, .bin .sub (.tmp 37) (.const (.int .u64 1))⟩,
 ⟨some 39, none, .bin .and (.tmp 36) (.tmp 38)⟩,
 ⟨some 40, none, .cvi .i64 (.tmp 39)⟩,
 ⟨some 10, none, .mov (.tmp 40)⟩])
 (.seq (.seq (.ops [⟨some 41, none, .mov (.tmp 10)⟩,
 ⟨some 42, none, .mov (.tmp 6)⟩,
 ⟨some 43, none, .bin .geq (.tmp 41) (.tmp 42)⟩])
 (.cond (.tmp 43)
 (.ops [⟨some 44, none, .mov (.tmp 10)⟩,
 ⟨some 45, none, .mov (.tmp 6)⟩,
 ⟨some 46, none, .bin .sub (.tmp 44) (.tmp 45)⟩,
 ⟨some 10, none, .mov (.tmp 46)⟩])
 .skip))
 (.draw [⟨some 47, none, .mov (.tmp 0)⟩,
 ⟨some 48, none, .mov (.tmp 9)⟩,
 ⟨some 49, none, .mov (.tmp 0)⟩,
 ⟨some 50, none, .mov (.tmp 1)⟩,
 ⟨some 51, none, .mov (.tmp 10)⟩,
 ⟨some 52, none, .bin .add (.tmp 50) (.tmp 51)⟩,
 ⟨some 53, none, .mov (.tmp 0)⟩,
 ⟨some 54, none, .mov (.tmp 1)⟩,
 ⟨some 55, none, .mov (.tmp 10)⟩,
 ⟨some 56, none, .bin .add (.tmp 54) (.tmp 55)⟩,
 ⟨some 57, none, .iad 1 (.tmp 53) (.tmp 56)⟩,
 ⟨some 58, none, .ld1 (.tmp 57)⟩,
 ⟨some 59, none, .mov (.tmp 0)⟩,
 ⟨some 60, none, .mov (.tmp 9)⟩,
 ⟨some 61, none, .iad 1 (.tmp 59) (.tmp 60)⟩,
 ⟨some 62, none, .ld1 (.tmp 61)⟩,
 ⟨some 63, none, .iad 1 (.tmp 47) (.tmp 48)⟩,
 ⟨none, none, .st 1 (.tmp 63) (.tmp 58)⟩,
 ⟨some 64, none, .iad 1 (.tmp 49) (.tmp 52)⟩,
 ⟨none, none, .st 1 (.tmp 64) (.tmp 62)⟩] [(0, 1), (0, 2), (1, 2), (0, 3), (1, 3), (2, 3), (0, 4), (1, 4), (2, 4), (3, 4), (0, 5), (1, 5), (2, 5), (0, 6), (1, 6), (2, 6), (3, 6), (4, 6), (5, 6), (0, 7), (1, 7), (2, 7), (3, 7), (4, 7), (5, 7), (6, 7), (0, 8), (1, 8), (2, 8), (3, 8), (4, 8), (5, 8), (6, 8), (7, 8), (0, 9), (1, 9), (2, 9), (3, 9), (4, 9), (5, 9), (6, 9), (0, 10), (1, 10), (2, 10), (3, 10), (4, 10), (5, 10), (0, 11), (1, 11), (2, 11), (3, 11), (4, 11), (5, 11), (0, 12), (1, 12), (2, 12), (3, 12), (4, 12), (5, 12), (6, 12), (7, 12), (8, 12), (9, 12), (10, 12), (11, 12), (0, 13), (1, 13), (2, 13), (3, 13), (4, 13), (5, 13), (6, 13), (7, 13), (8, 13), (9, 13), (10, 13), (11, 13), (12, 13), (0, 14), (1, 14), (2, 14), (3, 14), (4, 14), (5, 14), (6, 14), (7, 14), (8, 14), (9, 14), (10, 14), (11, 14), (0, 15), (1, 15), (2, 15), (3, 15), (4, 15), (5, 15), (6, 15), (7, 15), (8, 15), (9, 15), (10, 15), (11, 15), (2, 16), (3, 16), (4, 16), (5, 16), (2, 17), (3, 17), (4, 17), (5, 17)]))))
 (.ops [⟨some 34, none, .mov (.tmp 9)⟩,
 ⟨some 35, none, .bin .add (.tmp 34) (.const (.int .i64 1))⟩,
 ⟨some 9, none, .mov (.tmp 35)⟩]))))))))
 .skip)))⟩
theorem ok211 : compF Tryz.prog Tryz.f211 = some c211 := by kernel_rfl
def c212 : CF := ⟨57, [.tmp 6, .tmp 7],
 (.seq (.ops [⟨some 6, none, .mov (.const (.int .i64 0))⟩,
 ⟨some 7, none, .mov (.const (.int .i64 0))⟩])
 (.seq (.ops [⟨some 13, none, .mov (.tmp 2)⟩,
 ⟨some 14, none, .mov (.tmp 1)⟩,
 ⟨some 15, none, .bin .sub (.tmp 13) (.tmp 14)⟩,
 ⟨some 8, none, .mov (.tmp 15)⟩])
 (.seq (.ops [⟨some 9, none, .newz [(.int .i64 0)]⟩])
 (.seq (.ops [⟨some 16, none, .mov (.tmp 1)⟩,
 ⟨some 17, none, .mov (.tmp 8)⟩,
 ⟨some 18, none, .bin .quo (.tmp 17) (.const (.int .i64 4))⟩,
 ⟨some 19, none, .bin .mul (.tmp 18) (.const (.int .i64 1))⟩,
 ⟨some 20, none, .bin .add (.tmp 16) (.tmp 19)⟩,
 ⟨some 10, none, .mov (.tmp 20)⟩])
 (.seq (.ops [⟨some 21, none, .mov (.tmp 1)⟩,
 ⟨some 22, none, .mov (.tmp 8)⟩,
 ⟨some 23, none, .bin .quo (.tmp 22) (.const (.int .i64 4))⟩,
 ⟨some 24, none, .bin .mul (.tmp 23) (.const (.int .i64 2))⟩,
 ⟨some 25, none, .bin .add (.tmp 21) (.tmp 24)⟩,
 ⟨some 11, none, .mov (.tmp 25)⟩])
 (.seq (.ops [⟨some 26, none, .mov (.tmp 1)⟩,
 ⟨some 27, none, .mov (.tmp 8)⟩,
 ⟨some 28, none, .bin .quo (.tmp 27) (.const (.int .i64 4))⟩,
 ⟨some 29, none, .bin .mul (.tmp 28) (.const (.int .i64 3))⟩,
 ⟨some 30, none, .bin .add (.tmp 26) (.tmp 29)⟩,
 ⟨some 12, none, .mov (.tmp 30)⟩])
 (.seq (.seq (.ops [⟨some 31, none, .mov (.tmp 8)⟩,
 ⟨some 32, none, .bin .geq (.tmp 31) (.const (.int .i64 8))⟩])
 (.cond (.tmp 32)
 (.seq (.seq (.ops [⟨some 33, none, .mov (.tmp 8)⟩,
 ⟨some 34, none, .bin .geq (.tmp 33) (.const (.int .i64 50))⟩])
 (.cond (.tmp 34)
 (.seq (.ops [⟨some 35, none, .mov (.tmp 0)⟩,
 ⟨some 36, none, .mov (.tmp 10)⟩,
 ⟨some 37, none, .call (.func 253) [(.tmp 35), (.tmp 36), (.tmp 9)]⟩,
 ⟨some 10, none, .mov (.tmp 37)⟩])
 (.seq (.ops [⟨some 38, none, .mov (.tmp 0)⟩,
 ⟨some 39, none, .mov (.tmp 11)⟩,
 ⟨some 40, none, .call (.func 253) [(.tmp 38), (.tmp 39), (.tmp 9)]⟩,
 ⟨some 11, none, .mov (.tmp 40)⟩])
 (.ops [⟨some 41, none, .mov (.tmp 0)⟩,
 ⟨some 42, none, .mov (.tmp 12)⟩,
 ⟨some 43, none, .call (.func 253) [(.tmp 41), (.tmp 42), (.tmp 9)]⟩,
 ⟨some 12, none, .mov (.tmp 43)⟩])))
 .skip))
 (.ops [⟨some 44, none, .mov (.tmp 0)⟩,
 ⟨some 45, none, .mov (.tmp 10)⟩,
 ⟨some 46, none, .mov (.tmp 11)⟩,
 ⟨some 47, none, .mov (.tmp 12)⟩,
 ⟨some 48, none, .call (.func 254) [(.tmp 44), (.tmp 45), (.tmp 46), (.tmp 47), (.tmp 9)]⟩,
 ⟨some 11, none, .mov (.tmp 48)⟩]))
 .skip))
 (.seq (.ops [⟨some 49, none, .ld1 (.tmp 9)⟩])
 (.block 0 (.seq (.ops [⟨some 52, none, .bin .eql (.tmp 49) (.const (.int .i64 0))⟩,
 ⟨some 51, none, .mov (.tmp 52)⟩])
 (.cond (.tmp 51)
 (.seq (.ops [⟨some 53, none, .mov (.tmp 11)⟩,
 ⟨some 6, none, .mov (.tmp 53)⟩,
 ⟨some 7, none, .mov (.const (.int .i64 1))⟩])
 .ret)
 (.seq (.ops [⟨some 55, none, .bin .eql (.tmp 49) (.const (.int .i64 12))⟩,
 ⟨some 54, none, .mov (.tmp 55)⟩])
 (.cond (.tmp 54)
 (.seq (.ops [⟨some 56, none, .mov (.tmp 11)⟩,
 ⟨some 6, none, .mov (.tmp 56)⟩,
 ⟨some 7, none, .mov (.const (.int .i64 2))⟩])
 .ret)
 (.seq (.ops [⟨some 50, none, .mov (.tmp 11)⟩,
 ⟨some 6, none, .mov (.tmp 50)⟩,
 ⟨some 7, none, .mov (.const (.int .i64 0))⟩])
 .ret))))))))))))))⟩
theorem ok212 : compF Tryz.prog Tryz.f212 = some c212 := by kernel_rfl
def c213 : CF := ⟨32, [],
 (.seq (.ops [⟨some 8, none, .mov (.tmp 1)⟩,
 ⟨some 6, none, .mov (.tmp 8)⟩])
 (.seq (.ops [⟨some 9, none, .mov (.tmp 2)⟩,
 ⟨some 10, none, .bin .sub (.tmp 9) (.const (.int .i64 1))⟩,
 ⟨some 7, none, .mov (.tmp 10)⟩])
 (.block 0 (.loop (.seq (.seq (.ops [⟨some 11, none, .mov (.tmp 6)⟩,
 ⟨some 12, none, .mov (.tmp 7)⟩,
 ⟨some 13, none, .bin .lss (.tmp 11) (.tmp 12)⟩])
 (.cond (.tmp 13)
 .skip
 (.exit 0)))
 (.block 1 (.seq (.draw [⟨some 14, none, .mov (.tmp 0)⟩,
 ⟨some 15, none, .mov (.tmp 6)⟩,
 ⟨some 16, none, .mov (.tmp 0)⟩,
 ⟨some 17, none, .mov (.tmp 7)⟩,
 ⟨some 18, none, .mov (.tmp 0)⟩,
 ⟨some 19, none, .mov (.tmp 7)⟩,
 ⟨some 20, none, .iad 1 (.tmp 18) (.tmp 19)⟩,
 ⟨some 21, none, .ld1 (.tmp 20)⟩,
 ⟨some 22, none, .mov (.tmp 0)⟩,
 ⟨some 23, none, .mov (.tmp 6)⟩,
 ⟨some 24, none, .iad 1 (.tmp 22) (.tmp 23)⟩,
 ⟨some 25, none, .ld1 (.tmp 24)⟩,
 ⟨some 26, none, .iad 1 (.tmp 14) (.tmp 15)⟩,
 ⟨none, none, .st 1 (.tmp 26) (.tmp 21)⟩,
 ⟨some 27, none, .iad 1 (.tmp 16) (.tmp 17)⟩,
 ⟨none, none, .st 1 (.tmp 27) (.tmp 25)⟩] [(0, 1), (0, 2), (1, 2), (0, 3), (1, 3), (2, 3), (0, 4), (1, 4), (2, 4), (3, 4), (0, 5), (1, 5), (2, 5), (3, 5), (4, 5), (0, 6), (1, 6), (2, 6), (3, 6), (0, 7), (1, 7), (2, 7), (3, 7), (0, 8), (1, 8), (2, 8), (3, 8), (4, 8), (5, 8), (6, 8), (7, 8), (0, 9), (1, 9), (2, 9), (3, 9), (4, 9), (5, 9), (6, 9), (7, 9), (8, 9), (0, 10), (1, 10), (2, 10), (3, 10), (4, 10), (5, 10), (6, 10), (7, 10), (0, 11), (1, 11), (2, 11), (3, 11), (4, 11), (5, 11), (6, 11), (7, 11), (2, 12), (3, 12), (2, 13), (3, 13)])
 (.seq (.ops [⟨some 28, none, .mov (.tmp 6)⟩,
 ⟨some 29, none, .bin .add (.tmp 28) (.const (.int .i64 1))⟩,
 ⟨some 6, none, .mov (.tmp 29)⟩])
 (.ops [⟨some 30, none, .mov (.tmp 7)⟩,
 ⟨some 31, none, .bin .sub (.tmp 30) (.const (.int .i64 1))⟩,
 ⟨some 7, none, .mov (.tmp 31)⟩])))))))))⟩
theorem ok213 : compF Tryz.prog Tryz.f213 = some c213 := by kernel_rfl
def c214 : CF := ⟨133, [.tmp 6],
 (.seq (.ops [⟨some 6, none, .mov (.const (.bool false))⟩])
 (.seq (.ops [⟨some 11, none, .mov (.tmp 1)⟩,
 ⟨some 12, none, .bin .add (.tmp 11) (.const (.int .i64 1))⟩,
 ⟨some 7, none, .mov (.tmp 12)⟩])
 (.seq (.seq (.ops [⟨some 8, none, .mov (.const (.int .i64 0))⟩])
 (.block 0 (.loop (.seq (.seq (.ops [⟨some 13, none, .mov (.tmp 8)⟩,
 ⟨some 14, none, .bin .lss (.tmp 13) (.const (.int .i64 5))⟩])
 (.cond (.tmp 14)
 .skip
 (.exit 0)))
 (.seq (.block 1 (.seq (.block 2 (.loop (.seq (.seq (.draw [⟨some 17, none, .mov (.tmp 7)⟩,
 ⟨some 18, none, .mov (.tmp 2)⟩,
 ⟨some 19, none, .bin .lss (.tmp 17) (.tmp 18)⟩,
 ⟨some 20, none, .mov (.tmp 19)⟩,
 ⟨some 21, (some (20, true)), .mov (.tmp 0)⟩,
 ⟨some 22, (some (20, true)), .mov (.tmp 7)⟩,
 ⟨some 23, (some (20, true)), .iad 1 (.tmp 21) (.tmp 22)⟩,
 ⟨some 24, (some (20, true)), .ld1 (.tmp 23)⟩,
 ⟨some 25, (some (20, true)), .mov (.tmp 0)⟩,
 ⟨some 26, (some (20, true)), .mov (.tmp 7)⟩,
 ⟨some 27, (some (20, true)), .bin .sub (.tmp 26) (.const (.int .i64 1))⟩,
 ⟨some 28, (some (20, true)), .iad 1 (.tmp 25) (.tmp 27)⟩,
 ⟨some 29, (some (20, true)), .ld1 (.tmp 28)⟩,
 ⟨some 30, (some (20, true)), .call (.func 215) [(.tmp 24), (.tmp 29)]⟩,
 ⟨some 31, (some (20, true)), .un .not (.tmp 30)⟩,
 ⟨some 32, none, .pick (.tmp 20) (.tmp 31) (.const (.bool false))⟩] [(0, 1), (4, 5), (4, 8), (5, 8), (6, 8), (7, 8), (4, 9), (5, 9), (6, 9), (7, 9), (8, 9), (4, 10), (5, 10), (6, 10), (7, 10), (8, 10), (4, 11), (5, 11), (6, 11), (7, 11), (4, 12), (5, 12), (6, 12), (7, 12)])
 (.cond (.tmp 32)
 .skip
 (.exit 2)))
 (.block 3 (.ops [⟨some 33, none, .mov (.tmp 7)⟩,
 ⟨some 34, none, .bin .add (.tmp 33) (.const (.int .i64 1))⟩,
 ⟨some 7, none, .mov (.tmp 34)⟩])))))
 (.seq (.seq (.ops [⟨some 35, none, .mov (.tmp 7)⟩,
 ⟨some 36, none, .mov (.tmp 2)⟩,
 ⟨some 37, none, .bin .eql (.tmp 35) (.tmp 36)⟩])
 (.cond (.tmp 37)
 (.seq (.ops [⟨some 6, none, .mov (.const (.bool true))⟩])
 .ret)
 .skip))
 (.seq (.seq (.ops [⟨some 38, none, .mov (.tmp 2)⟩,
 ⟨some 39, none, .mov (.tmp 1)⟩,
 ⟨some 40, none, .bin .sub (.tmp 38) (.tmp 39)⟩,
 ⟨some 41, none, .bin .lss (.tmp 40) (.const (.int .i64 50))⟩])
 (.cond (.tmp 41)
 (.seq (.ops [⟨some 6, none, .mov (.const (.bool false))⟩])
 .ret)
 .skip))
 (.seq (.draw [⟨some 42, none, .mov (.tmp 0)⟩,
 ⟨some 43, none, .mov (.tmp 7)⟩,
 ⟨some 44, none, .mov (.tmp 0)⟩,
 ⟨some 45, none, .mov (.tmp 7)⟩,
 ⟨some 46, none, .bin .sub (.tmp 45) (.const (.int .i64 1))⟩,
 ⟨some 47, none, .mov (.tmp 0)⟩,
 ⟨some 48, none, .mov (.tmp 7)⟩,
 ⟨some 49, none, .bin .sub (.tmp 48) (.const (.int .i64 1))⟩,
 ⟨some 50, none, .iad 1 (.tmp 47) (.tmp 49)⟩,
 ⟨some 51, none, .ld1 (.tmp 50)⟩,
 ⟨some 52, none, .mov (.tmp 0)⟩,
 ⟨some 53, none, .mov (.tmp 7)⟩,
 ⟨some 54, none, .iad 1 (.tmp 52) (.tmp 53)⟩,
 ⟨some 55, none, .ld1 (.tmp 54)⟩,
 ⟨some 56, none, .iad 1 (.tmp 42) (.tmp 43)⟩,
 ⟨none, none, .st 1 (.tmp 56) (.tmp 51)⟩,
 ⟨some 57, none, .iad 1 (.tmp 44) (.tmp 46)⟩,
 ⟨none, none, .st 1 (.tmp 57) (.tmp 55)⟩] [(0, 1), (0, 2), (1, 2), (0, 3), (1, 3), (2, 3), (0, 4), (1, 4), (2, 4), (0, 5), (1, 5), (2, 5), (3, 5), (4, 5), (0, 6), (1, 6), (2, 6), (3, 6), (4, 6), (5, 6), (0, 7), (1, 7), (2, 7), (3, 7), (4, 7), (5, 7), (0, 8), (1, 8), (2, 8), (3, 8), (4, 8), (0, 9), (1, 9), (2, 9), (3, 9), (4, 9), (0, 10), (1, 10), (2, 10), (3, 10), (4, 10), (5, 10), (6, 10), (7, 10), (8, 10), (9, 10), (0, 11), (1, 11), (2, 11), (3, 11), (4, 11), (5, 11), (6, 11), (7, 11), (8, 11), (9, 11), (10, 11), (0, 12), (1, 12), (2, 12), (3, 12), (4, 12), (5, 12), (6, 12), (7, 12), (8, 12), (9, 12), (0, 13), (1, 13), (2, 13), (3, 13), (4, 13), (5, 13), (6, 13), (7, 13), (8, 13), (9, 13), (2, 14), (3, 14), (4, 14), (2, 15), (3, 15), (4, 15)])
 (.seq (.seq (.ops [⟨some 58, none, .mov (.tmp 7)⟩,
 ⟨some 59, none, .mov (.tmp 1)⟩,
 ⟨some 60, none, .bin .sub (.tmp 58) (.tmp 59)⟩,
 ⟨some 61, none, .bin .geq (.tmp 60) (.const (.int .i64 2))⟩])
 (.cond (.tmp 61)
 (.seq (.ops [⟨some 62, none, .mov (.tmp 7)⟩,
 ⟨some 63, none, .bin .sub (.tmp 62) (.const (.int .i64 1))⟩,
 ⟨some 9, none, .mov (.tmp 63)⟩])
 (.block 4 (.loop (.seq (.seq (.ops [⟨some 64, none, .mov (.tmp 9)⟩,
 ⟨some 65, none, .bin .geq (.tmp 64) (.const (.int .i64 1))⟩])
 (.cond (.tmp 65)
 .skip
 (.exit 4)))
 (.seq (.block 5 (.seq (.seq (.draw [⟨some 68, none, .mov (.tmp 0)⟩,
 ⟨some 69, none, .mov (.tmp 9)⟩,
 ⟨some 70, none, .iad 1 (.tmp 68) (.tmp 69)⟩,
 ⟨some 71, none, .ld1 (.tmp 70)⟩,
 ⟨some 72, none, .mov (.tmp 0)⟩,
 ⟨some 73, none, .mov (.tmp 9)⟩,
 ⟨some 74, none, .bin .sub (.tmp 73) (.const (.int .i64 1))⟩,
 ⟨some 75, none, .iad 1 (.tmp 72) (.tmp 74)⟩,
 ⟨some 76, none, .ld1 (.tmp 75)⟩,
 ⟨some 77, none, .call (.func 215) [(.tmp 71), (.tmp 76)]⟩,
 ⟨some 78, none, .un .not (.tmp 77)⟩] [(0, 1), (0, 4), (1, 4), (2, 4), (3, 4), (0, 5), (1, 5), (2, 5), (3, 5), (4, 5), (0, 6), (1, 6), (2, 6), (3, 6), (4, 6), (0, 7), (1, 7), (2, 7), (3, 7), (0, 8), (1, 8), (2, 8), (3, 8)])
 (.cond (.tmp 78)
 (.exit 4)
 .skip))
 (.draw [⟨some 79, none, .mov (.tmp 0)⟩,
 ⟨some 80, none, .mov (.tmp 9)⟩,
 ⟨some 81, none, .mov (.tmp 0)⟩,
 ⟨some 82, none, .mov (.tmp 9)⟩,
 ⟨some 83, none, .bin .sub (.tmp 82) (.const (.int .i64 1))⟩,
 ⟨some 84, none, .mov (.tmp 0)⟩,
 ⟨some 85, none, .mov (.tmp 9)⟩,
 ⟨some 86, none, .bin .sub (.tmp 85) (.const (.int .i64 1))⟩,
 ⟨some 87, none, .iad 1 (.tmp 84) (.tmp 86)⟩,
 ⟨some 88, none, .ld1 (.tmp 87)⟩,
 ⟨some 89, none, .mov (.tmp 0)⟩,
 ⟨some 90, none, .mov (.tmp 9)⟩,
 ⟨some 91, none, .iad 1 (.tmp 89) (.tmp 90)⟩,
 ⟨some 92, none, .ld1 (.tmp 91)⟩,
 ⟨some 93, none, .iad 1 (.tmp 79) (.tmp 80)⟩,
 ⟨none, none, .st 1 (.tmp 93) (.tmp 88)⟩,
 ⟨some 94, none, .iad 1 (.tmp 81) (.tmp 83)⟩,
 ⟨none, none, .st 1 (.tmp 94) (.tmp 92)⟩] [(0, 1), (0, 2), (1, 2), (0, 3), (1, 3), (2, 3), (0, 4), (1, 4), (2, 4), (0, 5), (1, 5), (2, 5), (3, 5), (4, 5), (0, 6), (1, 6), (2, 6), (3, 6), (4, 6), (5, 6), (0, 7), (1, 7), (2, 7), (3, 7), (4, 7), (5, 7), (0, 8), (1, 8), (2, 8), (3, 8), (4, 8), (0, 9), (1, 9), (2, 9), (3, 9), (4, 9), (0, 10), (1, 10), (2, 10), (3, 10), (4, 10), (5, 10), (6, 10), (7, 10), (8, 10), (9, 10), (0, 11), (1, 11), (2, 11), (3, 11), (4, 11), (5, 11), (6, 11), (7, 11), (8, 11), (9, 11), (10, 11), (0, 12), (1, 12), (2, 12), (3, 12), (4, 12), (5, 12), (6, 12), (7, 12), (8, 12), (9, 12), (0, 13), (1, 13), (2, 13), (3, 13), (4, 13), (5, 13), (6, 13), (7, 13), (8, 13), (9, 13), (2, 14), (3, 14), (4, 14), (2, 15), (3, 15), (4, 15)])))
 (.ops [⟨some 66, none, .mov (.tmp 9)⟩,
 ⟨some 67, none, .bin .sub (.tmp 66) (.const (.int .i64 1))⟩,
 ⟨some 9, none, .mov (.tmp 67)⟩]))))))
 .skip))
 (.seq (.ops [⟨some 95, none, .mov (.tmp 2)⟩,
 ⟨some 96, none, .mov (.tmp 7)⟩,
 ⟨some 97, none, .bin .sub (.tmp 95) (.tmp 96)⟩,
 ⟨some 98, none, .bin .geq (.tmp 97) (.const (.int .i64 2))⟩])
 (.cond (.tmp 98)
 (.seq (.ops [⟨some 99, none, .mov (.tmp 7)⟩,
 ⟨some 100, none, .bin .add (.tmp 99) (.const (.int .i64 1))⟩,
 ⟨some 10, none, .mov (.tmp 100)⟩])
 (.block 6 (.loop (.seq (.seq (.ops [⟨some 101, none, .mov (.tmp 10)⟩,
 ⟨some 102, none, .mov (.tmp 2)⟩,
 ⟨some 103, none, .bin .lss (.tmp 101) (.tmp 102)⟩])
 (.cond (.tmp 103)
 .skip
 (.exit 6)))
 (.seq (.block 7 (.seq (.seq (.draw [⟨some 106, none, .mov (.tmp 0)⟩,
 ⟨some 107, none, .mov (.tmp 10)⟩,
 ⟨some 108, none, .iad 1 (.tmp 106) (.tmp 107)⟩,
 ⟨some 109, none, .ld1 (.tmp 108)⟩,
 ⟨some 110, none, .mov (.tmp 0)⟩,
 ⟨some 111, none, .mov (.tmp 10)⟩,
 ⟨some 112, none, .bin .sub (.tmp 111) (.const (.int .i64 1))⟩,
 ⟨some 113, none, .iad 1 (.tmp 110) (.tmp 112)⟩,
 ⟨some 114, none, .ld1 (.tmp 113)⟩,
 ⟨some 115, none, .call (.func 215) [(.tmp 109), (.tmp 114)]⟩,
 ⟨some 116, none, .un .not (.tmp 115)⟩] [(0, 1), (0, 4), (1, 4), (2, 4), (3, 4), (0, 5), (1, 5), (2, 5), (3, 5), (4, 5), (0, 6), (1, 6), (2, 6), (3, 6), (4, 6), (0, 7), (1, 7), (2, 7), (3, 7), (0, 8), (1, 8), (2, 8), (3, 8)])
 (.cond (.tmp 116)
 (.exit 6)
 .skip))
 (.draw [⟨some 117, none, .mov (.tmp 0)⟩,
 ⟨some 118, none, .mov (.tmp 10)⟩,
 ⟨some 119, none, .mov (.tmp 0)⟩,
 ⟨some 120, none, .mov (.tmp 10)⟩,
 ⟨some 121, none, .bin .sub (.tmp 120) (.const (.int .i64 1))⟩,
 ⟨some 122, none, .mov (.tmp 0)⟩,
 ⟨some 123, none, .mov (.tmp 10)⟩,
 ⟨some 124, none, .bin .sub (.tmp 123) (.const (.int .i64 1))⟩,
 ⟨some 125, none, .iad 1 (.tmp 122) (.tmp 124)⟩,
 ⟨some 126, none, .ld1 (.tmp 125)⟩,
 ⟨some 127, none, .mov (.tmp 0)⟩,
 ⟨some 128, none, .mov (.tmp 10)⟩,
 ⟨some 129, none, .iad 1 (.tmp 127) (.tmp 128)⟩,
 ⟨some 130, none, .ld1 (.tmp 129)⟩,
 ⟨some 131, none, .iad 1 (.tmp 117) (.tmp 118)⟩,
 ⟨none, none, .st 1 (.tmp 131) (.tmp 126)⟩,
 ⟨some 132, none, .iad 1 (.tmp 119) (.tmp 121)⟩,
 ⟨none, none, .st 1 (.tmp 132) (.tmp 130)⟩] [(0, 1), (0, 2), (1, 2), (0, 3), (1, 3), (2, 3), (0, 4), (1, 4), (2, 4), (0, 5), (1, 5), (2, 5), (3, 5), (4, 5), (0, 6), (1, 6), (2, 6), (3, 6), (4, 6), (5, 6), (0, 7), (1, 7), (2, 7), (3, 7), (4, 7), (5, 7), (0, 8), (1, 8), (2, 8), (3, 8), (4, 8), (0, 9), (1, 9), (2, 9), (3, 9), (4, 9), (0, 10), (1, 10), (2, 10), (3, 10), (4, 10), (5, 10), (6, 10), (7, 10), (8, 10), (9, 10), (0, 11), (1, 11), (2, 11), (3, 11), (4, 11), (5, 11), (6, 11), (7, 11), (8, 11), (9, 11), (10, 11), (0, 12), (1, 12), (2, 12), (3, 12), (4, 12), (5, 12), (6, 12), (7, 12), (8, 12), (9, 12), (0, 13), (1, 13), (2, 13), (3, 13), (4, 13), (5, 13), (6, 13), (7, 13), (8, 13), (9, 13), (2, 14), (3, 14), (4, 14), (2, 15), (3, 15), (4, 15)])))
 (.ops [⟨some 104, none, .mov (.tmp 10)⟩,
 ⟨some 105, none, .bin .add (.tmp 104) (.const (.int .i64 1))⟩,
 ⟨some 10, none, .mov (.tmp 105)⟩]))))))
 .skip))))))))
 (.ops [⟨some 15, none, .mov (.tmp 8)⟩,
 ⟨some 16, none, .bin .add (.tmp 15) (.const (.int .i64 1))⟩,
 ⟨some 8, none, .mov (.tmp 16)⟩]))))))
 (.seq (.ops [⟨some 6, none, .mov (.const (.bool false))⟩])
 .ret))))⟩
theorem ok214 : compF Tryz.prog Tryz.f214 = some c214 := by kernel_rfl
def c215 : CF := ⟨17, [.tmp 4],
 (.seq (.ops [⟨some 4, none, .mov (.const (.bool false))⟩])
 (.seq (.ops [⟨some 5, none, .mov (.tmp 0)⟩,
 ⟨some 6, none, .call (.func 255) [(.tmp 5)]⟩,
 ⟨some 7, none, .mov (.tmp 6)⟩,
 ⟨some 8, (some (7, true)), .mov (.tmp 1)⟩,
 ⟨some 9, (some (7, true)), .call (.func 255) [(.tmp 8)]⟩,
 ⟨some 10, (some (7, true)), .un .not (.tmp 9)⟩,
 ⟨some 11, none, .pick (.tmp 7) (.tmp 10) (.const (.bool false))⟩,
 ⟨some 12, none, .mov (.tmp 11)⟩,
 ⟨some 13, (some (12, false)), .mov (.tmp 0)⟩,
 ⟨some 14, (some (12, false)), .mov (.tmp 1)⟩,
 ⟨some 15, (some (12, false)), .bin .lss (.tmp 13) (.tmp 14)⟩,
 ⟨some 16, none, .pick (.tmp 12) (.const (.bool true)) (.tmp 15)⟩,
 ⟨some 4, none, .mov (.tmp 16)⟩])
 .ret))⟩
theorem ok215 : compF Tryz.prog Tryz.f215 = some c215 := by kernel_rfl
def c216 : CF := ⟨84, [.tmp 8],
 (.seq (.ops [⟨some 8, none, .mov (.const (.int .i64 0))⟩])
 (.seq (.draw [⟨some 11, none, .mov (.tmp 0)⟩,
 ⟨some 12, none, .mov (.tmp 1)⟩,
 ⟨some 13, none, .mov (.tmp 0)⟩,
 ⟨some 14, none, .mov (.tmp 3)⟩,
 ⟨some 15, none, .mov (.tmp 0)⟩,
 ⟨some 16, none, .mov (.tmp 3)⟩,
 ⟨some 17, none, .iad 1 (.tmp 15) (.tmp 16)⟩,
 ⟨some 18, none, .ld1 (.tmp 17)⟩,
 ⟨some 19, none, .mov (.tmp 0)⟩,
 ⟨some 20, none, .mov (.tmp 1)⟩,
 ⟨some 21, none, .iad 1 (.tmp 19) (.tmp 20)⟩,
 ⟨some 22, none, .ld1 (.tmp 21)⟩,
 ⟨some 23, none, .iad 1 (.tmp 11) (.tmp 12)⟩,
 ⟨none, none, .st 1 (.tmp 23) (.tmp 18)⟩,
 ⟨some 24, none, .iad 1 (.tmp 13) (.tmp 14)⟩,
 ⟨none, none, .st 1 (.tmp 24) (.tmp 22)⟩] [(0, 1), (0, 2), (1, 2), (0, 3), (1, 3), (2, 3), (0, 4), (1, 4), (2, 4), (3, 4), (0, 5), (1, 5), (2, 5), (3, 5), (4, 5), (0, 6), (1, 6), (2, 6), (3, 6), (0, 7), (1, 7), (2, 7), (3, 7), (0, 8), (1, 8), (2, 8), (3, 8), (4, 8), (5, 8), (6, 8), (7, 8), (0, 9), (1, 9), (2, 9), (3, 9), (4, 9), (5, 9), (6, 9), (7, 9), (8, 9), (0, 10), (1, 10), (2, 10), (3, 10), (4, 10), (5, 10), (6, 10), (7, 10), (0, 11), (1, 11), (2, 11), (3, 11), (4, 11), (5, 11), (6, 11), (7, 11), (2, 12), (3, 12), (2, 13), (3, 13)])
 (.seq (.ops [⟨some 25, none, .mov (.tmp 1)⟩,
 ⟨some 26, none, .bin .add (.tmp 25) (.const (.int .i64 1))⟩,
 ⟨some 27, none, .mov (.tmp 2)⟩,
 ⟨some 28, none, .bin .sub (.tmp 27) (.const (.int .i64 1))⟩,
 ⟨some 9, none, .mov (.tmp 26)⟩,
 ⟨some 10, none, .mov (.tmp 28)⟩])
 (.seq (.block 0 (.loop (.block 1 (.seq (.block 2 (.loop (.seq (.seq (.draw [⟨some 29, none, .mov (.tmp 9)⟩,
 ⟨some 30, none, .mov (.tmp 10)⟩,
 ⟨some 31, none, .bin .leq (.tmp 29) (.tmp 30)⟩,
 ⟨some 32, none, .mov (.tmp 31)⟩,
 ⟨some 33, (some (32, true)), .mov (.tmp 0)⟩,
 ⟨some 34, (some (32, true)), .mov (.tmp 1)⟩,
 ⟨some 35, (some (32, true)), .iad 1 (.tmp 33) (.tmp 34)⟩,
 ⟨some 36, (some (32, true)), .ld1 (.tmp 35)⟩,
 ⟨some 37, (some (32, true)), .mov (.tmp 0)⟩,
 ⟨some 38, (some (32, true)), .mov (.tmp 9)⟩,
 ⟨some 39, (some (32, true)), .iad 1 (.tmp 37) (.tmp 38)⟩,
 ⟨some 40, (some (32, true)), .ld1 (.tmp 39)⟩,
 ⟨some 41, (some (32, true)), .call (.func 215) [(.tmp 36), (.tmp 40)]⟩,
 ⟨some 42, (some (32, true)), .un .not (.tmp 41)⟩,
 ⟨some 43, none, .pick (.tmp 32) (.tmp 42) (.const (.bool false))⟩] [(0, 1), (4, 5), (4, 8), (5, 8), (6, 8), (7, 8), (4, 9), (5, 9), (6, 9), (7, 9), (8, 9), (4, 10), (5, 10), (6, 10), (7, 10), (4, 11), (5, 11), (6, 11), (7, 11)])
 (.cond (.tmp 43)
 .skip
 (.exit 2)))
 (.block 3 (.ops [⟨some 44, none, .mov (.tmp 9)⟩,
 ⟨some 45, none, .bin .add (.tmp 44) (.const (.int .i64 1))⟩,
 ⟨some 9, none, .mov (.tmp 45)⟩])))))
 (.seq (.block 4 (.loop (.seq (.seq (.draw [⟨some 46, none, .mov (.tmp 9)⟩,
 ⟨some 47, none, .mov (.tmp 10)⟩,
 ⟨some 48, none, .bin .leq (.tmp 46) (.tmp 47)⟩,
 ⟨some 49, none, .mov (.tmp 48)⟩,
 ⟨some 50, (some (49, true)), .mov (.tmp 0)⟩,
 ⟨some 51, (some (49, true)), .mov (.tmp 1)⟩,
 ⟨some 52, (some (49, true)), .iad 1 (.tmp 50) (.tmp 51)⟩,
 ⟨some 53, (some (49, true)), .ld1 (.tmp 52)⟩,
 ⟨some 54, (some (49, true)), .mov (.tmp 0)⟩,
 ⟨some 55, (some (49, true)), .mov (.tmp 10)⟩,
 ⟨some 56, (some (49, true)), .iad 1 (.tmp 54) (.tmp 55)⟩,
 ⟨some 57, (some (49, true)), .ld1 (.tmp 56)⟩,
 ⟨some 58, (some (49, true)), .call (.func 215) [(.tmp 53), (.tmp 57)]⟩,
 ⟨some 59, none, .pick (.tmp 49) (.tmp 58) (.const (.bool false))⟩] [(0, 1), (4, 5), (4, 8), (5, 8), (6, 8), (7, 8), (4, 9), (5, 9), (6, 9), (7, 9), (8, 9), (4, 10), (5, 10), (6, 10), (7, 10), (4, 11), (5, 11), (6, 11), (7, 11)])
 (.cond (.tmp 59)
 .skip
 (.exit 4)))
 (.block 5 (.ops [⟨some 60, none, .mov (.tmp 10)⟩,
 ⟨some 61, none, .bin .sub (.tmp 60) (.const (.int .i64 1))⟩,
 ⟨some 10, none, .mov (.tmp 61)⟩])))))
 (.seq (.seq (.ops [⟨some 62, none, .mov (.tmp 9)⟩,
 ⟨some 63, none, .mov (.tmp 10)⟩,
 ⟨some 64, none, .bin .gtr (.tmp 62) (.tmp 63)⟩])
 (.cond (.tmp 64)
 (.exit 0)
 .skip))
 (.seq (.draw [⟨some 65, none, .mov (.tmp 0)⟩,
 ⟨some 66, none, .mov (.tmp 9)⟩,
 ⟨some 67, none, .mov (.tmp 0)⟩,
 ⟨some 68, none, .mov (.tmp 10)⟩,
 ⟨some 69, none, .mov (.tmp 0)⟩,
 ⟨some 70, none, .mov (.tmp 10)⟩,
 ⟨some 71, none, .iad 1 (.tmp 69) (.tmp 70)⟩,
 ⟨some 72, none, .ld1 (.tmp 71)⟩,
 ⟨some 73, none, .mov (.tmp 0)⟩,
 ⟨some 74, none, .mov (.tmp 9)⟩,
 ⟨some 75, none, .iad 1 (.tmp 73) (.tmp 74)⟩,
 ⟨some 76, none, .ld1 (.tmp 75)⟩,
 ⟨some 77, none, .iad 1 (.tmp 65) (.tmp 66)⟩,
 ⟨none, none, .st 1 (.tmp 77) (.tmp 72)⟩,
 ⟨some 78, none, .iad 1 (.tmp 67) (.tmp 68)⟩,
 ⟨none, none, .st 1 (.tmp 78) (.tmp 76)⟩] [(0, 1), (0, 2), (1, 2), (0, 3), (1, 3), (2, 3), (0, 4), (1, 4), (2, 4), (3, 4), (0, 5), (1, 5), (2, 5), (3, 5), (4, 5), (0, 6), (1, 6), (2, 6), (3, 6), (0, 7), (1, 7), (2, 7), (3, 7), (0, 8), (1, 8), (2, 8), (3, 8), (4, 8), (5, 8), (6, 8), (7, 8), (0, 9), (1, 9), (2, 9), (3, 9), (4, 9), (5, 9), (6, 9), (7, 9), (8, 9), (0, 10), (1, 10), (2, 10), (3, 10), (4, 10), (5, 10), (6, 10), (7, 10), (0, 11), (1, 11), (2, 11), (3, 11), (4, 11), (5, 11), (6, 11), (7, 11), (2, 12), (3, 12), (2, 13), (3, 13)])
 (.seq (.ops [⟨some 79, none, .mov (.tmp 9)⟩,
 ⟨some 80, none, .bin .add (.tmp 79) (.const (.int .i64 1))⟩,
 ⟨some 9, none, .mov (.tmp 80)⟩])
 (.ops [⟨some 81, none, .mov (.tmp 10)⟩,
 ⟨some 82, none, .bin .sub (.tmp 81) (.const (.int .i64 1))⟩,
 ⟨some 10, none, .mov (.tmp 82)⟩])))))))))
 (.seq (.ops [⟨some 83, none, .mov (.tmp 9)⟩,
 ⟨some 8, none, .mov (.tmp 83)⟩])
 .ret)))))⟩
theorem ok216 : compF Tryz.prog Tryz.f216 = some c216 := by kernel_rfl
def c217 : CF := ⟨168, [.tmp 8, .tmp 9],
 (.seq (.ops [⟨some 8, none, .mov (.const (.int .i64 0))⟩,
 ⟨some 9, none, .mov (.const (.bool false))⟩])
 (.seq (.draw [⟨some 12, none, .mov (.tmp 0)⟩,
 ⟨some 13, none, .mov (.tmp 1)⟩,
 ⟨some 14, none, .mov (.tmp 0)⟩,
 ⟨some 15, none, .mov (.tmp 3)⟩,
 ⟨some 16, none, .mov (.tmp 0)⟩,
 ⟨some 17, none, .mov (.tmp 3)⟩,
 ⟨some 18, none, .iad 1 (.tmp 16) (.tmp 17)⟩,
 ⟨some 19, none, .ld1 (.tmp 18)⟩,
 ⟨some 20, none, .mov (.tmp 0)⟩,
 ⟨some 21, none, .mov (.tmp 1)⟩,
 ⟨some 22, none, .iad 1 (.tmp 20) (.tmp 21)⟩,
 ⟨some 23, none, .ld1 (.tmp 22)⟩,
 ⟨some 24, none, .iad 1 (.tmp 12) (.tmp 13)⟩,
 ⟨none, none, .st 1 (.tmp 24) (.tmp 19)⟩,
 ⟨some 25, none, .iad 1 (.tmp 14) (.tmp 15)⟩,
 ⟨none, none, .st 1 (.tmp 25) (.tmp 23)⟩] [(0, 1), (0, 2), (1, 2), (0, 3), (1, 3), (2, 3), (0, 4), (1, 4), (2, 4), (3, 4), (0, 5), (1, 5), (2, 5), (3, 5), (4, 5), (0, 6), (1, 6), (2, 6), (3, 6), (0, 7), (1, 7), (2, 7), (3, 7), (0, 8), (1, 8), (2, 8), (3, 8), (4, 8), (5, 8), (6, 8), (7, 8), (0, 9), (1, 9), (2, 9), (3, 9), (4, 9), (5, 9), (6, 9), (7, 9), (8, 9), (0, 10), (1, 10), (2, 10), (3, 10), (4, 10), (5, 10), (6, 10), (7, 10), (0, 11), (1, 11), (2, 11), (3, 11), (4, 11), (5, 11), (6, 11), (7, 11), (2, 12), (3, 12), (2, 13), (3, 13)])
 (.seq (.ops [⟨some 26, none, .mov (.tmp 1)⟩,
 ⟨some 27, none, .bin .add (.tmp 26) (.const (.int .i64 1))⟩,
 ⟨some 28, none, .mov (.tmp 2)⟩,
 ⟨some 29, none, .bin .sub (.tmp 28) (.const (.int .i64 1))⟩,
 ⟨some 10, none, .mov (.tmp 27)⟩,
 ⟨some 11, none, .mov (.tmp 29)⟩])
 (.seq (.block 0 (.loop (.seq (.seq (.draw [⟨some 30, none, .mov (.tmp 10)⟩,
 ⟨some 31, none, .mov (.tmp 11)⟩,
 ⟨some 32, none, .bin .leq (.tmp 30) (.tmp 31)⟩,
 ⟨some 33, none, .mov (.tmp 32)⟩,
 ⟨some 34, (some (33, true)), .mov (.tmp 0)⟩,
 ⟨some 35, (some (33, true)), .mov (.tmp 10)⟩,
 ⟨some 36, (some (33, true)), .iad 1 (.tmp 34) (.tmp 35)⟩,
 ⟨some 37, (some (33, true)), .ld1 (.tmp 36)⟩,
 ⟨some 38, (some (33, true)), .mov (.tmp 0)⟩,
 ⟨some 39, (some (33, true)), .mov (.tmp 1)⟩,
 ⟨some 40, (some (33, true)), .iad 1 (.tmp 38) (.tmp 39)⟩,
 ⟨some 41, (some (33, true)), .ld1 (.tmp 40)⟩,
 ⟨some 42, (some (33, true)), .call (.func 215) [(.tmp 37), (.tmp 41)]⟩,
 ⟨some 43, none, .pick (.tmp 33) (.tmp 42) (.const (.bool false))⟩] [(0, 1), (4, 5), (4, 8), (5, 8), (6, 8), (7, 8), (4, 9), (5, 9), (6, 9), (7, 9), (8, 9), (4, 10), (5, 10), (6, 10), (7, 10), (4, 11), (5, 11), (6, 11), (7, 11)])
 (.cond (.tmp 43)
 .skip
 (.exit 0)))
 (.block 1 (.ops [⟨some 44, none, .mov (.tmp 10)⟩,
 ⟨some 45, none, .bin .add (.tmp 44) (.const (.int .i64 1))⟩,
 ⟨some 10, none, .mov (.tmp 45)⟩])))))
 (.seq (.block 2 (.loop (.seq (.seq (.draw [⟨some 46, none, .mov (.tmp 10)⟩,
 ⟨some 47, none, .mov (.tmp 11)⟩,
 ⟨some 48, none, .bin .leq (.tmp 46) (.tmp 47)⟩,
 ⟨some 49, none, .mov (.tmp 48)⟩,
 ⟨some 50, (some (49, true)), .mov (.tmp 0)⟩,
 ⟨some 51, (some (49, true)), .mov (.tmp 11)⟩,
 ⟨some 52, (some (49, true)), .iad 1 (.tmp 50) (.tmp 51)⟩,
 ⟨some 53, (some (49, true)), .ld1 (.tmp 52)⟩,
 ⟨some 54, (some (49, true)), .mov (.tmp 0)⟩,
 ⟨some 55, (some (49, true)), .mov (.tmp 1)⟩,
 ⟨some 56, (some (49, true)), .iad 1 (.tmp 54) (.tmp 55)⟩,
 ⟨some 57, (some (49, true)), .ld1 (.tmp 56)⟩,
 ⟨some 58, (some (49, true)), .call (.func 215) [(.tmp 53), (.tmp 57)]⟩,
 ⟨some 59, (some (49, true)), .un .not (.tmp 58)⟩,
 ⟨some 60, none, .pick (.tmp 49) (.tmp 59) (.const (.bool false))⟩] [(0, 1), (4, 5), (4, 8), (5, 8), (6, 8), (7, 8), (4, 9), (5, 9), (6, 9), (7, 9), (8, 9), (4, 10), (5, 10), (6, 10), (7, 10), (4, 11), (5, 11), (6, 11), (7, 11)])
 (.cond (.tmp 60)
 .skip
 (.exit 2)))
 (.block 3 (.ops [⟨some 61, none, .mov (.tmp 11)⟩,
 ⟨some 62, none, .bin .sub (.tmp 61) (.const (.int .i64 1))⟩,
 ⟨some 11, none, .mov (.tmp 62)⟩])))))
 (.seq (.seq (.ops [⟨some 63, none, .mov (.tmp 10)⟩,
 ⟨some 64, none, .mov (.tmp 11)⟩,
 ⟨some 65, none, .bin .gtr (.tmp 63) (.tmp 64)⟩])
 (.cond (.tmp 65)
 (.seq (.draw [⟨some 66, none, .mov (.tmp 0)⟩,
 ⟨some 67, none, .mov (.tmp 11)⟩,
 ⟨some 68, none, .mov (.tmp 0)⟩,
 ⟨some 69, none, .mov (.tmp 1)⟩,
 ⟨some 70, none, .mov (.tmp 0)⟩,
 ⟨some 71, none, .mov (.tmp 1)⟩,
 ⟨some 72, none, .iad 1 (.tmp 70) (.tmp 71)⟩,
 ⟨some 73, none, .ld1 (.tmp 72)⟩,
 ⟨some 74, none, .mov (.tmp 0)⟩,
 ⟨some 75, none, .mov (.tmp 11)⟩,
 ⟨some 76, none, .iad 1 (.tmp 74) (.tmp 75)⟩,
 ⟨some 77, none, .ld1 (.tmp 76)⟩,
 ⟨some 78, none, .iad 1 (.tmp 66) (.tmp 67)⟩,
 ⟨none, none, .st 1 (.tmp 78) (.tmp 73)⟩,
 ⟨some 79, none, .iad 1 (.tmp 68) (.tmp 69)⟩,
 ⟨none, none, .st 1 (.tmp 79) (.tmp 77)⟩] [(0, 1), (0, 2), (1, 2), (0, 3), (1, 3), (2, 3), (0, 4), (1, 4), (2, 4), (3, 4), (0, 5), (1, 5), (2, 5), (3, 5), (4, 5), (0, 6), (1, 6), (2, 6), (3, 6), (0, 7), (1, 7), (2, 7), (3, 7), (0, 8), (1, 8), (2, 8), (3, 8), (4, 8), (5, 8), (6, 8), (7, 8), (0, 9), (1, 9), (2, 9), (3, 9), (4, 9), (5, 9), (6, 9), (7, 9), (8, 9), (0, 10), (1, 10), (2, 10), (3, 10), (4, 10), (5, 10), (6, 10), (7, 10), (0, 11), (1, 11), (2, 11), (3, 11), (4, 11), (5, 11), (6, 11), (7, 11), (2, 12), (3, 12), (2, 13), (3, 13)])
 (.seq (.ops [⟨some 80, none, .mov (.tmp 11)⟩,
 ⟨some 8, none, .mov (.tmp 80)⟩,
 ⟨some 9, none, .mov (.const (.bool true))⟩])
 .ret))
 .skip))
 (.seq (.draw [⟨some 81, none, .mov (.tmp 0)⟩,
 ⟨some 82, none, .mov (.tmp 10)⟩,
 ⟨some 83, none, .mov (.tmp 0)⟩,
 ⟨some 84, none, .mov (.tmp 11)⟩,
 ⟨some 85, none, .mov (.tmp 0)⟩,
 ⟨some 86, none, .mov (.tmp 11)⟩,
 ⟨some 87, none, .iad 1 (.tmp 85) (.tmp 86)⟩,
 ⟨some 88, none, .ld1 (.tmp 87)⟩,
 ⟨some 89, none, .mov (.tmp 0)⟩,
 ⟨some 90, none, .mov (.tmp 10)⟩,
 ⟨some 91, none, .iad 1 (.tmp 89) (.tmp 90)⟩,
 ⟨some 92, none, .ld1 (.tmp 91)⟩,
 ⟨some 93, none, .iad 1 (.tmp 81) (.tmp 82)⟩,
 ⟨none, none, .st 1 (.tmp 93) (.tmp 88)⟩,
 ⟨some 94, none, .iad 1 (.tmp 83) (.tmp 84)⟩,
 ⟨none, none, .st 1 (.tmp 94) (.tmp 92)⟩] [(0, 1), (0, 2), (1, 2), (0, 3), (1, 3), (2, 3), (0, 4), (1, 4), (2, 4), (3, 4), (0, 5), (1, 5), (2, 5), (3, 5), (4, 5), (0, 6), (1, 6), (2, 6), (3, 6), (0, 7), (1, 7), (2, 7), (3, 7), (0, 8), (1, 8), (2, 8), (3, 8), (4, 8), (5, 8), (6, 8), (7, 8), (0, 9), (1, 9), (2, 9), (3, 9), (4, 9), (5, 9), (6, 9), (7, 9), (8, 9), (0, 10), (1, 10), (2, 10), (3, 10), (4, 10), (5, 10), (6, 10), (7, 10), (0, 11), (1, 11), (2, 11), (3, 11), (4, 11), (5, 11), (6, 11), (7, 11), (2, 12), (3, 12), (2, 13), (3, 13)])
 (.seq (.ops [⟨some 95, none, .mov (.tmp 10)⟩,
 ⟨some 96, none, .bin .add (.tmp 95) (.const (.int .i64 1))⟩,
 ⟨some 10, none, .mov (.tmp 96)⟩])
 (.seq (.ops [⟨some 97, none, .mov (.tmp 11)⟩,
 ⟨some 98, none, .bin .sub (.tmp 97) (.const (.int .i64 1))⟩,
 ⟨some 11, none, .mov (.tmp 98)⟩])
 (.seq (.block 4 (.loop (.block 5 (.seq (.block 6 (.loop (.seq (.seq (.draw [⟨some 99, none, .mov (.tmp 10)⟩,
 ⟨some 100, none, .mov (.tmp 11)⟩,
 ⟨some 101, none, .bin .leq (.tmp 99) (.tmp 100)⟩,
 ⟨some 102, none, .mov (.tmp 101)⟩,
 ⟨some 103, (some (102, true)), .mov (.tmp 0)⟩,
 ⟨some 104, (some (102, true)), .mov (.tmp 10)⟩,
 ⟨some 105, (some (102, true)), .iad 1 (.tmp 103) (.tmp 104)⟩,
 ⟨some 106, (some (102, true)), .ld1 (.tmp 105)⟩,
 ⟨some 107, (some (102, true)), .mov (.tmp 0)⟩,
 ⟨some 108, (some (102, true)), .mov (.tmp 1)⟩,
 ⟨some 109, (some (102, true)), .iad 1 (.tmp 107) (.tmp 108)⟩,
 ⟨some 110, (some (102, true)), .ld1 (.tmp 109)⟩,
 ⟨some 111, (some (102, true)), .call (.func 215) [(.tmp 106), (.tmp 110)]⟩,
 ⟨some 112, none, .pick (.tmp 102) (.tmp 111) (.const (.bool false))⟩] [(0, 1), (4, 5), (4, 8), (5, 8), (6, 8), (7, 8), (4, 9), (5, 9), (6, 9), (7, 9), (8, 9), (4, 10), (5, 10), (6, 10), (7, 10), (4, 11), (5, 11), (6, 11), (7, 11)])
 (.cond (.tmp 112)
 .skip
 (.exit 6)))
 (.block 7 (.ops [⟨some 113, none, .mov (.tmp 10)⟩,
 ⟨some 114, none, .bin .add (.tmp 113) (.const (.int .i64 1))⟩,
 ⟨some 10, none, .mov (.tmp 114)⟩])))))
 (.seq (.block 8 (.loop (.seq (.seq (.draw [⟨some 115, none, .mov (.tmp 10)⟩,
 ⟨some 116, none, .mov (.tmp 11)⟩,
 ⟨some 117, none, .bin .leq (.tmp 115) (.tmp 116)⟩,
 ⟨some 118, none, .mov (.tmp 117)⟩,
 ⟨some 119, (some (118, true)), .mov (.tmp 0)⟩,
 ⟨some 120, (some (118, true)), .mov (.tmp 11)⟩,
 ⟨some 121, (some (118, true)), .iad 1 (.tmp 119) (.tmp 120)⟩,
 ⟨some 122, (some (118, true)), .ld1 (.tmp 121)⟩,
 ⟨some 123, (some (118, true)), .mov (.tmp 0)⟩,
 ⟨some 124, (some (118, true)), .mov (.tmp 1)⟩,
 ⟨some 125, (some (118, true)), .iad 1 (.tmp 123) (.tmp 124)⟩,
 ⟨some 126, (some (118, true)), .ld1 (.tmp 125)⟩,
 ⟨some 127, (some (118, true)), .call (.func 215) [(.tmp 122), (.tmp 126)]⟩,
 ⟨some 128, (some (118, true)), .un .not (.tmp 127)⟩,
 ⟨some 129, none, .pick (.tmp 118) (.tmp 128) (.const (.bool false))⟩] [(0, 1), (4, 5), (4, 8), (5, 8), (6, 8), (7, 8), (4, 9), (5, 9), (6, 9), (7, 9), (8, 9), (4, 10), (5, 10), (6, 10), (7, 10), (4, 11), (5, 11), (6, 11), (7, 11)])
 (.cond (.tmp 129)
 .skip
 (.exit 8)))
 (.block 9 (.ops [⟨some 130, none, .mov (.tmp 11)⟩,
 ⟨some 131, none, .bin .sub (.tmp 130) (.const (.int .i64 1))⟩,
 ⟨some 11, none, .mov (.tmp 131)⟩])))))
 (.seq (.seq (.ops [⟨some 132, none, .mov (.tmp 10)⟩,
 ⟨some 133, none, .mov (.tmp 11)⟩,
 ⟨some 134, none, .bin .gtr (.tmp 132) (.tmp 133)⟩])
 (.cond (.tmp 134)
 (.exit 4)
 .skip))
 (.seq (.draw [⟨some 135, none, .mov (.tmp 0)⟩,
 ⟨some 136, none, .mov (.tmp 10)⟩,
 ⟨some 137, none, .mov (.tmp 0)⟩,
 ⟨some 138, none, .mov (.tmp 11)⟩,
 ⟨some 139, none, .mov (.tmp 0)⟩,
 ⟨some 140, none, .mov (.tmp 11)⟩,
 ⟨some 141, none, .iad 1 (.tmp 139) (.tmp 140)⟩,
 ⟨some 142, none, .ld1 (.tmp 141)⟩,
 ⟨some 143, none, .mov (.tmp 0)⟩,
 ⟨some 144, none, .mov (.tmp 10)⟩,
 ⟨some 145, none, .iad 1 (.tmp 143) (.tmp 144)⟩,
 ⟨some 146, none, .ld1 (.tmp 145)⟩,
 ⟨some 147, none, .iad 1 (.tmp 135) (.tmp 136)⟩,
 ⟨none, none, .st 1 (.tmp 147) (.tmp 142)⟩,
 ⟨some 148, none, .iad 1 (.tmp 137) (.tmp 138)⟩,
 ⟨none, none, .st 1 (.tmp 148) (.tmp 146)⟩] [(0, 1), (0, 2), (1, 2), (0, 3), (1, 3), (2, 3), (0, 4), (1, 4), (2, 4), (3, 4), (0, 5), (1, 5), (2, 5), (3, 5), (4, 5), (0, 6), (1, 6), (2, 6), (3, 6), (0, 7), (1, 7), (2, 7), (3, 7), (0, 8), (1, 8), (2, 8), (3, 8), (4, 8), (5, 8), (6, 8), (7, 8), (0, 9), (1, 9), (2, 9), (3, 9), (4, 9), (5, 9), (6, 9), (7, 9), (8, 9), (0, 10), (1, 10), (2, 10), (3, 10), (4, 10), (5, 10), (6, 10), (7, 10), (0, 11), (1, 11), (2, 11), (3, 11), (4, 11), (5, 11), (6, 11), (7, 11), (2, 12), (3, 12), (2, 13), (3, 13)])
 (.seq (.ops [⟨some 149, none, .mov (.tmp 10)⟩,
 ⟨some 150, none, .bin .add (.tmp 149) (.const (.int .i64 1))⟩,
 ⟨some 10, none, .mov (.tmp 150)⟩])
 (.ops [⟨some 151, none, .mov (.tmp 11)⟩,
 ⟨some 152, none, .bin .sub (.tmp 151) (.const (.int .i64 1))⟩,
 ⟨some 11, none, .mov (.tmp 152)⟩])))))))))
 (.seq (.draw [⟨some 153, none, .mov (.tmp 0)⟩,
 ⟨some 154, none, .mov (.tmp 11)⟩,
 ⟨some 155, none, .mov (.tmp 0)⟩,
 ⟨some 156, none, .mov (.tmp 1)⟩,
 ⟨some 157, none, .mov (.tmp 0)⟩,
 ⟨some 158, none, .mov (.tmp 1)⟩,
 ⟨some 159, none, .iad 1 (.tmp 157) (.tmp 158)⟩,
 ⟨some 160, none, .ld1 (.tmp 159)⟩,
 ⟨some 161, none, .mov (.tmp 0)⟩,
 ⟨some 162, none, .mov (.tmp 11)⟩,
 ⟨some 163, none, .iad 1 (.tmp 161) (.tmp 162)⟩,
 ⟨some 164, none, .ld1 (.tmp 163)⟩,
 ⟨some 165, none, .iad 1 (.tmp 153) (.tmp 154)⟩,
 ⟨none, none, .st 1 (.tmp 165) (.tmp 160)⟩,
 ⟨some 166, none, .iad 1 (.tmp 155) (.tmp 156)⟩,
 ⟨none, none, .st 1 (.tmp 166) (.tmp 164)⟩] [(0, 1), (0, 2), (1, 2), (0, 3), (1, 3), (2, 3), (0, 4), (1, 4), (2, 4), (3, 4), (0, 5), (1, 5), (2, 5), (3, 5), (4, 5), (0, 6), (1, 6), (2, 6), (3, 6), (0, 7), (1, 7), (2, 7), (3, 7), (0, 8), (1, 8), (2, 8), (3, 8), (4, 8), (5, 8), (6, 8), (7, 8), (0, 9), (1, 9), (2, 9), (3, 9), (4, 9), (5, 9), (6, 9), (7, 9), (8, 9), (0, 10), (1, 10), (2, 10), (3, 10), (4, 10), (5, 10), (6, 10), (7, 10), (0, 11), (1, 11), (2, 11), (3, 11), (4, 11), (5, 11), (6, 11), (7, 11), (2, 12), (3, 12), (2, 13), (3, 13)])
 (.seq (.ops [⟨some 167, none, .mov (.tmp 11)⟩,
 ⟨some 8, none, .mov (.tmp 167)⟩,
 ⟨some 9, none, .mov (.const (.bool false))⟩])
 .ret))))))))))))⟩
theorem ok217 : compF Tryz.prog Tryz.f217 = some c217 := by kernel_rfl
def c218 : CF := ⟨19, [.tmp 2],
 (.seq (.ops [⟨some 2, none, .mov (.const (.int .i64 0))⟩])
 (.seq (.seq (.ops [⟨some 3, none, .mov (.tmp 0)⟩,
 ⟨some 4, none, .bin .geq (.tmp 3) (.const (.int .u32 65536))⟩])
 (.cond (.tmp 4)
 (.seq (.ops [⟨some 5, none, .mov (.tmp 0)⟩,
 ⟨some 6, none, .bin .shr (.tmp 5) (.const (.int .u64 16))⟩,
 ⟨some 0, none, .mov (.tmp 6)⟩])
 (.ops [⟨some 2, none, .mov (.const (.int .i64 16))⟩]))
 .skip))
 (.seq (.seq (.ops [⟨some 7, none, .mov (.tmp 0)⟩,
 ⟨some 8, none, .bin .geq (.tmp 7) (.const (.int .u32 256))⟩])
 (.cond (.tmp 8)
 (.seq (.ops [⟨some 9, none, .mov (.tmp 0)⟩,
 ⟨some 10, none, .bin .shr (.tmp 9) (.const (.int .u64 8))⟩,
 ⟨some 0, none, .mov (.tmp 10)⟩])
 (.ops [⟨some 11, none, .mov (.tmp 2)⟩,
 ⟨some 12, none, .bin .add (.tmp 11) (.const (.int .i64 8))⟩,
 ⟨some 2, none, .mov (.tmp 12)⟩]))
 .skip))
 (.seq (.ops [⟨some 13, none, .mov (.tmp 2)⟩,
 ⟨some 14, none, .mov (.tmp 0)⟩,
 ⟨some 15, none, .cvi .u8 (.tmp 14)⟩,
 ⟨some 16, none, .ids (.const (.string ⟨#[0, 1, 2, 2, 3, 3, 3, 3, 4, 4, 4, 4, 4, 4, 4, 4, 5, 5, 5, 5, 5, 5, 5, 5, 5, 5, 5, 5, 5, 5, 5, 5, 6, 6, 6, 6, 6, 6, 6, 6, 6, 6, 6, 6, 6, 6, 6, 6, 6, 6, 6, 6, 6, 6, 6, 6, 6, 6, 6, 6, 6, 6, 6, 6, 7, 7, 7, 7, 7, 7, 7, 7, 7, 7, 7, 7, 7, 7, 7, 7, 7, 7, 7, 7, 7, 7, 7, 7, 7, 7, 7, 7, 7, 7, 7, 7, 7, 7, 7, 7, 7, 7, 7, 7, 7, 7, 7, 7, 7, 7, 7, 7, 7, 7, 7, 7, 7, 7, 7, 7, 7, 7, 7, 7, 7, 7, 7, 7, 8, 8, 8, 8, 8, 8, 8, 8, 8, 8, 8, 8, 8, 8, 8, 8, 8, 8, 8, 8, 8, 8, 8, 8, 8, 8, 8, 8, 8, 8, 8, 8, 8, 8, 8, 8, 8, 8, 8, 8, 8, 8, 8, 8, 8, 8, 8, 8, 8, 8, 8, 8, 8, 8, 8, 8, 8, 8, 8, 8, 8, 8, 8, 8, 8, 8, 8, 8, 8, 8, 8, 8, 8, 8, 8, 8, 8, 8, 8, 8, 8, 8, 8, 8, 8, 8, 8, 8, 8, 8, 8, 8, 8, 8, 8, 8, 8, 8, 8, 8, 8, 8, 8, 8, 8, 8, 8, 8, 8, 8, 8, 8, 8, 8, 8, 8, 8, 8, 8, 8, 8, 8, 8, 8, 8, 8, 8, 8]⟩)) (.tmp 15)⟩,
 ⟨some 17, none, .cvi .i64 (.tmp 16)⟩,
 ⟨some 18, none, .bin .add (.tmp 13) (.tmp 17)⟩,
 ⟨some 2, none, .mov (.tmp 18)⟩])
 .ret))))⟩
theorem ok218 : compF Tryz.prog Tryz.f218 = some c218 := by kernel_rfl
def c219 : CF := ⟨45, [.tmp 6],
 (.seq (.ops [⟨some 6, none, .mov (.const (.int .i64 0))⟩])
 (.seq (.ops [⟨some 7, none, .mov (.tmp 0)⟩,
 ⟨some 8, none, .mov (.tmp 1)⟩,
 ⟨some 9, none, .mov (.tmp 2)⟩,
 ⟨some 10, none, .call (.func 181) [(.tmp 7), (.tmp 8), (.const (.int .i64 9)), (.tmp 9)]⟩,
 ⟨some 11, none, .mov (.tmp 10)⟩,
 ⟨some 12, (some (11, true)), .mov (.tmp 0)⟩,
 ⟨some 13, (some (11, true)), .nilck (.tmp 12)⟩,
 ⟨some 14, (some (11, true)), .fad (.tmp 13) 0⟩,
 ⟨some 15, (some (11, true)), .ld1 (.tmp 14)⟩,
 ⟨some 16, (some (11, true)), .mov (.tmp 1)⟩,
 ⟨some 17, (some (11, true)), .iad 6 (.tmp 15) (.tmp 16)⟩,
 ⟨some 18, (some (11, true)), .fad (.tmp 17) 1⟩,
 ⟨some 19, (some (11, true)), .ld1 (.tmp 18)⟩,
 ⟨some 20, (some (11, true)), .bin .eql (.tmp 19) (.const (.int .i64 1))⟩,
 ⟨some 21, none, .pick (.tmp 11) (.tmp 20) (.const (.bool false))⟩,
 ⟨some 22, none, .mov (.tmp 21)⟩,
 ⟨some 23, (some (22, true)), .mov (.tmp 0)⟩,
 ⟨some 24, (some (22, true)), .mov (.tmp 1)⟩,
 ⟨some 25, (some (22, true)), .bin .add (.tmp 24) (.const (.int .i64 1))⟩,
 ⟨some 26, (some (22, true)), .mov (.tmp 2)⟩,
 ⟨some 27, (some (22, true)), .bin .add (.tmp 26) (.const (.int .i32 1))⟩,
 ⟨some 28, (some (22, true)), .call (.func 181) [(.tmp 23), (.tmp 25), (.const (.int .i64 8)), (.tmp 27)]⟩,
 ⟨some 29, none, .pick (.tmp 22) (.tmp 28) (.const (.bool false))⟩,
 ⟨some 30, none, .mov (.tmp 29)⟩,
 ⟨some 31, (some (30, true)), .mov (.tmp 0)⟩,
 ⟨some 32, (some (30, true)), .nilck (.tmp 31)⟩,
 ⟨some 33, (some (30, true)), .fad (.tmp 32) 0⟩,
 ⟨some 34, (some (30, true)), .ld1 (.tmp 33)⟩,
 ⟨some 35, (some (30, true)), .mov (.tmp 1)⟩,
 ⟨some 36, (some (30, true)), .bin .add (.tmp 35) (.const (.int .i64 1))⟩,
 ⟨some 37, (some (30, true)), .iad 6 (.tmp 34) (.tmp 36)⟩,
 ⟨some 38, (some (30, true)), .fad (.tmp 37) 2⟩,
 ⟨some 39, (some (30, true)), .ld1 (.tmp 38)⟩,
 ⟨some 40, (some (30, true)), .bin .eql (.tmp 39) (.const (.int .i64 0))⟩,
 ⟨some 41, none, .pick (.tmp 30) (.tmp 40) (.const (.bool false))⟩,
 ⟨some 42, none, .call (.func 131) [(.tmp 41)]⟩])
 (.seq (.ops [⟨some 43, none, .mov (.tmp 1)⟩,
 ⟨some 44, none, .bin .add (.tmp 43) (.const (.int .i64 2))⟩,
 ⟨some 6, none, .mov (.tmp 44)⟩])
 .ret)))⟩
theorem ok219 : compF Tryz.prog Tryz.f219 = some c219 := by kernel_rfl
def c220 : CF := ⟨13, [.tmp 2, .tmp 3],
 (.seq (.ops [⟨some 2, none, .mov (.const (.int .i64 0))⟩,
 ⟨some 3, none, .mov (.const (.int .i64 0))⟩])
 (.seq (.seq (.ops [⟨some 4, none, .mov (.tmp 0)⟩,
 ⟨some 5, none, .bin .lss (.tmp 4) (.const (.int .i64 1))⟩,
 ⟨some 6, none, .mov (.tmp 5)⟩,
 ⟨some 7, (some (6, false)), .mov (.tmp 0)⟩,
 ⟨some 8, (some (6, false)), .bin .geq (.tmp 7) (.const (.int .i64 34))⟩,
 ⟨some 9, none, .pick (.tmp 6) (.const (.bool true)) (.tmp 8)⟩])
 (.cond (.tmp 9)
 (.seq (.ops [⟨some 2, none, .mov (.const (.int .i64 0))⟩,
 ⟨some 3, none, .mov (.const (.int .i64 4))⟩])
 .ret)
 .skip))
 (.seq (.ops [⟨some 10, none, .mov (.tmp 0)⟩,
 ⟨some 11, none, .iaa 34 1 (.global 3) (.tmp 10)⟩,
 ⟨some 12, none, .ld1 (.tmp 11)⟩,
 ⟨some 2, none, .mov (.tmp 12)⟩,
 ⟨some 3, none, .mov (.const (.int .i64 0))⟩])
 .ret)))⟩
theorem ok220 : compF Tryz.prog Tryz.f220 = some c220 := by kernel_rfl
def c221 : CF := ⟨236, [.cells 6 3, .tmp 7],
 (.seq (.ops [⟨some 6, none, .newz [(.int .i64 0), (.int .i64 0), (.bool false)]⟩,
 ⟨some 7, none, .mov (.const (.bool false))⟩])
 (.seq (.ops [⟨some 13, none, .mov (.tmp 0)⟩,
 ⟨some 14, none, .nilck (.tmp 13)⟩,
 ⟨some 15, none, .fad (.tmp 14) 0⟩,
 ⟨some 16, none, .ld1 (.tmp 15)⟩,
 ⟨some 17, none, .mov (.tmp 1)⟩,
 ⟨some 18, none, .iad 6 (.tmp 16) (.tmp 17)⟩,
 ⟨some 19, none, .ld 6 (.tmp 18)⟩,
 ⟨some 8, none, .newz [(.int .i64 0), (.int .i64 0), (.int .i64 0), (.string ⟨#[]⟩), (.int .i32 0), (.int .i32 0)]⟩,
 ⟨none, none, .st 6 (.tmp 8) (.tmp 19)⟩])
 (.seq (.ops [⟨some 20, none, .mov (.tmp 0)⟩,
 ⟨some 21, none, .mov (.tmp 1)⟩,
 ⟨some 22, none, .call (.func 132) [(.tmp 20), (.tmp 21)]⟩,
 ⟨some 9, none, .mov (.tmp 22)⟩])
 (.seq (.block 0 (.seq (.ops [⟨some 24, none, .mov (.tmp 2)⟩,
 ⟨some 25, none, .bin .eql (.tmp 24) (.const (.int .i64 18))⟩,
 ⟨some 26, none, .mov (.tmp 25)⟩,
 ⟨some 27, (some (26, true)), .mov (.tmp 0)⟩,
 ⟨some 28, (some (26, true)), .mov (.tmp 1)⟩,
 ⟨some 29, (some (26, true)), .call (.func 181) [(.tmp 27), (.tmp 28), (.const (.int .i64 10)), (.const (.int .i32 13))]⟩,
 ⟨some 30, none, .pick (.tmp 26) (.tmp 29) (.const (.bool false))⟩,
 ⟨some 23, none, .mov (.tmp 30)⟩])
 (.cond (.tmp 23)
 (.seq (.draw [⟨some 31, none, .mov (.tmp 0)⟩,
 ⟨some 32, none, .nilck (.tmp 31)⟩,
 ⟨some 33, none, .fad (.tmp 32) 0⟩,
 ⟨some 34, none, .ld1 (.tmp 33)⟩,
 ⟨some 35, none, .mov (.tmp 9)⟩,
 ⟨some 36, none, .iad 1 (.tmp 35) (.const (.int .i64 2))⟩,
 ⟨some 37, none, .ld1 (.tmp 36)⟩,
 ⟨some 38, none, .iad 6 (.tmp 34) (.tmp 37)⟩,
 ⟨some 39, none, .fad (.tmp 38) 0⟩,
 ⟨some 40, none, .ld1 (.tmp 39)⟩,
 ⟨some 41, none, .bin .eql (.tmp 40) (.const (.int .i64 2))⟩,
 ⟨some 42, none, .mov (.tmp 41)⟩,
 ⟨some 43, (some (42, true)), .mov (.tmp 0)⟩,
 ⟨some 44, (some (42, true)), .nilck (.tmp 43)⟩,
 ⟨some 45, (some (42, true)), .fad (.tmp 44) 0⟩,
 ⟨some 46, (some (42, true)), .ld1 (.tmp 45)⟩,
 ⟨some 47, (some (42, true)), .mov (.tmp 9)⟩,
 ⟨some 48, (some (42, true)), .iad 1 (.tmp 47) (.const (.int .i64 2))⟩,
 ⟨some 49, (some (42, true)), .ld1 (.tmp 48)⟩,
 ⟨some 50, (some (42, true)), .iad 6 (.tmp 46) (.tmp 49)⟩,
 ⟨some 51, (some (42, true)), .fad (.tmp 50) 2⟩,
 ⟨some 52, (some (42, true)), .ld1 (.tmp 51)⟩,
 ⟨some 53, (some (42, true)), .bin .eql (.tmp 52) (.const (.int .i64 0))⟩,
 ⟨some 54, none, .pick (.tmp 42) (.tmp 53) (.const (.bool false))⟩,
 ⟨some 55, none, .call (.func 131) [(.tmp 54)]⟩] [(0, 4), (1, 4), (2, 4), (3, 4), (0, 5), (1, 5), (2, 5), (3, 5), (0, 6), (1, 6), (2, 6), (3, 6), (12, 16), (13, 16), (14, 16), (15, 16), (12, 17), (13, 17), (14, 17), (15, 17), (12, 18), (13, 18), (14, 18), (15, 18)])
 (.seq (.draw [⟨some 56, none, .mov (.tmp 9)⟩,
 ⟨some 57, none, .iad 1 (.tmp 56) (.const (.int .i64 0))⟩,
 ⟨some 58, none, .ld1 (.tmp 57)⟩,
 ⟨some 59, none, .mov (.tmp 9)⟩,
 ⟨some 60, none, .iad 1 (.tmp 59) (.const (.int .i64 1))⟩,
 ⟨some 61, none, .ld1 (.tmp 60)⟩,
 ⟨some 62, none, .agg [(.int .i64 0), (.int .i64 0), (.bool false)] [(0, 1, (.tmp 58)), (1, 1, (.tmp 61)), (2, 1, (.const (.bool false)))]⟩,
 ⟨none, none, .st 3 (.tmp 6) (.tmp 62)⟩,
 ⟨some 7, none, .mov (.const (.bool true))⟩] [(0, 3), (1, 3), (2, 3), (0, 4), (1, 4), (2, 4), (0, 5), (1, 5), (2, 5)])
 .ret))
 (.seq (.ops [⟨some 64, none, .mov (.tmp 2)⟩,
 ⟨some 65, none, .bin .eql (.tmp 64) (.const (.int .i64 23))⟩,
 ⟨some 66, none, .mov (.tmp 65)⟩,
 ⟨some 67, (some (66, true)), .mov (.tmp 0)⟩,
 ⟨some 68, (some (66, true)), .mov (.tmp 1)⟩,
 ⟨some 69, (some (66, true)), .call (.func 181) [(.tmp 67), (.tmp 68), (.const (.int .i64 9)), (.const (.int .i32 25))]⟩,
 ⟨some 70, none, .pick (.tmp 66) (.tmp 69) (.const (.bool false))⟩,
 ⟨some 63, none, .mov (.tmp 70)⟩])
 (.cond (.tmp 63)
 (.seq (.draw [⟨some 71, none, .mov (.tmp 9)⟩,
 ⟨some 72, none, .lnl (.tmp 71)⟩,
 ⟨some 73, none, .bin .eql (.tmp 72) (.const (.int .i64 3))⟩,
 ⟨some 74, none, .mov (.tmp 73)⟩,
 ⟨some 75, (some (74, true)), .mov (.tmp 0)⟩,
 ⟨some 76, (some (74, true)), .nilck (.tmp 75)⟩,
 ⟨some 77, (some (74, true)), .fad (.tmp 76) 0⟩,
 ⟨some 78, (some (74, true)), .ld1 (.tmp 77)⟩,
 ⟨some 79, (some (74, true)), .mov (.tmp 9)⟩,
 ⟨some 80, (some (74, true)), .iad 1 (.tmp 79) (.const (.int .i64 0))⟩,
 ⟨some 81, (some (74, true)), .ld1 (.tmp 80)⟩,
 ⟨some 82, (some (74, true)), .iad 6 (.tmp 78) (.tmp 81)⟩,
 ⟨some 83, (some (74, true)), .fad (.tmp 82) 0⟩,
 ⟨some 84, (some (74, true)), .ld1 (.tmp 83)⟩,
 ⟨some 85, (some (74, true)), .bin .eql (.tmp 84) (.const (.int .i64 6))⟩,
 ⟨some 86, none, .pick (.tmp 74) (.tmp 85) (.const (.bool false))⟩,
 ⟨some 87, none, .mov (.tmp 86)⟩,
 ⟨some 88, (some (87, true)), .mov (.tmp 0)⟩,
 ⟨some 89, (some (87, true)), .nilck (.tmp 88)⟩,
 ⟨some 90, (some (87, true)), .fad (.tmp 89) 0⟩,
 ⟨some 91, (some (87, true)), .ld1 (.tmp 90)⟩,
 ⟨some 92, (some (87, true)), .mov (.tmp 9)⟩,
 ⟨some 93, (some (87, true)), .iad 1 (.tmp 92) (.const (.int .i64 0))⟩,
 ⟨some 94, (some (87, true)), .ld1 (.tmp 93)⟩,
 ⟨some 95, (some (87, true)), .iad 6 (.tmp 91) (.tmp 94)⟩,
 ⟨some 96, (some (87, true)), .fad (.tmp 95) 3⟩,
 ⟨some 97, (some (87, true)), .ld1 (.tmp 96)⟩,
 ⟨some 98, (some (87, true)), .bin .eql (.tmp 97) (.const (.string ⟨#[99, 111, 110, 115]⟩))⟩,
 ⟨some 99, none, .pick (.tmp 87) (.tmp 98) (.const (.bool false))⟩,
 ⟨some 100, none, .call (.func 131) [(.tmp 99)]⟩] [(4, 8), (5, 8), (6, 8), (7, 8), (4, 9), (5, 9), (6, 9), (7, 9), (4, 10), (5, 10), (6, 10), (7, 10), (17, 21), (18, 21), (19, 21), (20, 21), (17, 22), (18, 22), (19, 22), (20, 22), (17, 23), (18, 23), (19, 23), (20, 23)])
 (.seq (.draw [⟨some 101, none, .mov (.tmp 9)⟩,
 ⟨some 102, none, .iad 1 (.tmp 101) (.const (.int .i64 1))⟩,
 ⟨some 103, none, .ld1 (.tmp 102)⟩,
 ⟨some 104, none, .mov (.tmp 9)⟩,
 ⟨some 105, none, .iad 1 (.tmp 104) (.const (.int .i64 2))⟩,
 ⟨some 106, none, .ld1 (.tmp 105)⟩,
 ⟨some 107, none, .agg [(.int .i64 0), (.int .i64 0), (.bool false)] [(0, 1, (.tmp 103)), (1, 1, (.tmp 106)), (2, 1, (.const (.bool false)))]⟩,
 ⟨none, none, .st 3 (.tmp 6) (.tmp 107)⟩,
 ⟨some 7, none, .mov (.const (.bool true))⟩] [(0, 3), (1, 3), (2, 3), (0, 4), (1, 4), (2, 4), (0, 5), (1, 5), (2, 5)])
 .ret))
 (.seq (.ops [⟨some 109, none, .mov (.tmp 2)⟩,
 ⟨some 110, none, .bin .eql (.tmp 109) (.const (.int .i64 22))⟩,
 ⟨some 111, none, .mov (.tmp 110)⟩,
 ⟨some 112, (some (111, true)), .mov (.tmp 0)⟩,
 ⟨some 113, (some (111, true)), .mov (.tmp 1)⟩,
 ⟨some 114, (some (111, true)), .call (.func 181) [(.tmp 112), (.tmp 113), (.const (.int .i64 9)), (.const (.int .i32 23))]⟩,
 ⟨some 115, none, .pick (.tmp 111) (.tmp 114) (.const (.bool false))⟩,
 ⟨some 108, none, .mov (.tmp 115)⟩])
 (.cond (.tmp 108)
 (.seq (.draw [⟨some 116, none, .mov (.tmp 9)⟩,
 ⟨some 117, none, .lnl (.tmp 116)⟩,
 ⟨some 118, none, .bin .eql (.tmp 117) (.const (.int .i64 2))⟩,
 ⟨some 119, none, .mov (.tmp 118)⟩,
 ⟨some 120, (some (119, true)), .mov (.tmp 0)⟩,
 ⟨some 121, (some (119, true)), .mov (.tmp 9)⟩,
 ⟨some 122, (some (119, true)), .iad 1 (.tmp 121) (.const (.int .i64 0))⟩,
 ⟨some 123, (some (119, true)), .ld1 (.tmp 122)⟩,
 ⟨some 124, (some (119, true)), .call (.func 181) [(.tmp 120), (.tmp 123), (.const (.int .i64 8)), (.const (.int .i32 24))]⟩,
 ⟨some 125, none, .pick (.tmp 119) (.tmp 124) (.const (.bool false))⟩,
 ⟨some 126, none, .mov (.tmp 125)⟩,
 ⟨some 127, (some (126, true)), .mov (.tmp 0)⟩,
 ⟨some 128, (some (126, true)), .nilck (.tmp 127)⟩,
 ⟨some 129, (some (126, true)), .fad (.tmp 128) 0⟩,
 ⟨some 130, (some (126, true)), .ld1 (.tmp 129)⟩,
 ⟨some 131, (some (126, true)), .mov (.tmp 9)⟩,
 ⟨some 132, (some (126, true)), .iad 1 (.tmp 131) (.const (.int .i64 0))⟩,
 ⟨some 133, (some (126, true)), .ld1 (.tmp 132)⟩,
 ⟨some 134, (some (126, true)), .iad 6 (.tmp 130) (.tmp 133)⟩,
 ⟨some 135, (some (126, true)), .fad (.tmp 134) 2⟩,
 ⟨some 136, (some (126, true)), .ld1 (.tmp 135)⟩,
 ⟨some 137, (some (126, true)), .bin .eql (.tmp 136) (.const (.int .i64 1))⟩,
 ⟨some 138, none, .pick (.tmp 126) (.tmp 137) (.const (.bool false))⟩,
 ⟨some 139, none, .call (.func 131) [(.tmp 138)]⟩] [(4, 5), (4, 6), (4, 7), (11, 15), (12, 15), (13, 15), (14, 15), (11, 16), (12, 16), (13, 16), (14, 16), (11, 17), (12, 17), (13, 17), (14, 17)])
 (.seq (.draw [⟨some 140, none, .mov (.tmp 9)⟩,
 ⟨some 141, none, .iad 1 (.tmp 140) (.const (.int .i64 1))⟩,
 ⟨some 142, none, .ld1 (.tmp 141)⟩,
 ⟨some 143, none, .mov (.tmp 9)⟩,
 ⟨some 144, none, .iad 1 (.tmp 143) (.const (.int .i64 0))⟩,
 ⟨some 145, none, .ld1 (.tmp 144)⟩,
 ⟨some 146, none, .bin .add (.tmp 145) (.const (.int .i64 1))⟩,
 ⟨some 147, none, .agg [(.int .i64 0), (.int .i64 0), (.bool false)] [(0, 1, (.tmp 142)), (1, 1, (.tmp 146)), (2, 1, (.const (.bool true)))]⟩,
 ⟨none, none, .st 3 (.tmp 6) (.tmp 147)⟩,
 ⟨some 7, none, .mov (.const (.bool true))⟩] [(0, 3), (1, 3), (2, 3), (0, 4), (1, 4), (2, 4), (0, 5), (1, 5), (2, 5), (0, 6), (1, 6), (2, 6)])
 .ret))
 (.seq (.ops [⟨some 149, none, .mov (.tmp 2)⟩,
 ⟨some 150, none, .bin .eql (.tmp 149) (.const (.int .i64 19))⟩,
 ⟨some 151, none, .mov (.tmp 150)⟩,
 ⟨some 152, (some (151, true)), .fad (.tmp 8) 4⟩,
 ⟨some 153, (some (151, true)), .ld1 (.tmp 152)⟩,
 ⟨some 154, (some (151, true)), .bin .eql (.tmp 153) (.const (.int .i32 16))⟩,
 ⟨some 155, none, .pick (.tmp 151) (.tmp 154) (.const (.bool false))⟩,
 ⟨some 148, none, .mov (.tmp 155)⟩])
 (.cond (.tmp 148)
 (.seq (.draw [⟨some 156, none, .mov (.tmp 0)⟩,
 ⟨some 157, none, .mov (.tmp 1)⟩,
 ⟨some 158, none, .call (.func 181) [(.tmp 156), (.tmp 157), (.const (.int .i64 9)), (.const (.int .i32 16))]⟩,
 ⟨some 159, none, .mov (.tmp 158)⟩,
 ⟨some 160, (some (159, true)), .mov (.tmp 9)⟩,
 ⟨some 161, (some (159, true)), .lnl (.tmp 160)⟩,
 ⟨some 162, (some (159, true)), .bin .eql (.tmp 161) (.const (.int .i64 2))⟩,
 ⟨some 163, none, .pick (.tmp 159) (.tmp 162) (.const (.bool false))⟩,
 ⟨some 164, none, .mov (.tmp 163)⟩,
 ⟨some 165, (some (164, true)), .mov (.tmp 0)⟩,
 ⟨some 166, (some (164, true)), .mov (.tmp 9)⟩,
 ⟨some 167, (some (164, true)), .iad 1 (.tmp 166) (.const (.int .i64 0))⟩,
 ⟨some 168, (some (164, true)), .ld1 (.tmp 167)⟩,
 ⟨some 169, (some (164, true)), .call (.func 181) [(.tmp 165), (.tmp 168), (.const (.int .i64 8)), (.const (.int .i32 17))]⟩,
 ⟨some 170, none, .pick (.tmp 164) (.tmp 169) (.const (.bool false))⟩,
 ⟨some 171, none, .mov (.tmp 170)⟩,
 ⟨some 172, (some (171, true)), .mov (.tmp 0)⟩,
 ⟨some 173, (some (171, true)), .nilck (.tmp 172)⟩,
 ⟨some 174, (some (171, true)), .fad (.tmp 173) 0⟩,
 ⟨some 175, (some (171, true)), .ld1 (.tmp 174)⟩,
 ⟨some 176, (some (171, true)), .mov (.tmp 9)⟩,
 ⟨some 177, (some (171, true)), .iad 1 (.tmp 176) (.const (.int .i64 0))⟩,
 ⟨some 178, (some (171, true)), .ld1 (.tmp 177)⟩,
 ⟨some 179, (some (171, true)), .iad 6 (.tmp 175) (.tmp 178)⟩,
 ⟨some 180, (some (171, true)), .fad (.tmp 179) 2⟩,
 ⟨some 181, (some (171, true)), .ld1 (.tmp 180)⟩,
 ⟨some 182, (some (171, true)), .bin .eql (.tmp 181) (.const (.int .i64 1))⟩,
 ⟨some 183, none, .pick (.tmp 171) (.tmp 182) (.const (.bool false))⟩,
 ⟨some 184, none, .mov (.tmp 183)⟩,
 ⟨some 185, (some (184, true)), .mov (.tmp 0)⟩,
 ⟨some 186, (some (184, true)), .mov (.tmp 9)⟩,
 ⟨some 187, (some (184, true)), .iad 1 (.tmp 186) (.const (.int .i64 0))⟩,
 ⟨some 188, (some (184, true)), .ld1 (.tmp 187)⟩,
 ⟨some 189, (some (184, true)), .bin .add (.tmp 188) (.const (.int .i64 1))⟩,
 ⟨some 190, (some (184, true)), .call (.func 181) [(.tmp 185), (.tmp 189), (.const (.int .i64 10)), (.const (.int .i32 18))]⟩,
 ⟨some 191, none, .pick (.tmp 184) (.tmp 190) (.const (.bool false))⟩,
 ⟨some 192, none, .call (.func 131) [(.tmp 191)]⟩] [(0, 1), (9, 10), (9, 11), (9, 12), (16, 20), (17, 20), (18, 20), (19, 20), (16, 21), (17, 21), (18, 21), (19, 21), (16, 22), (17, 22), (18, 22), (19, 22), (29, 30), (29, 31), (29, 32), (29, 33)])
 (.seq (.ops [⟨some 193, none, .mov (.tmp 0)⟩,
 ⟨some 194, none, .mov (.tmp 9)⟩,
 ⟨some 195, none, .iad 1 (.tmp 194) (.const (.int .i64 0))⟩,
 ⟨some 196, none, .ld1 (.tmp 195)⟩,
 ⟨some 197, none, .bin .add (.tmp 196) (.const (.int .i64 1))⟩,
 ⟨some 198, none, .call (.func 132) [(.tmp 193), (.tmp 197)]⟩,
 ⟨some 10, none, .mov (.tmp 198)⟩])
 (.seq (.seq (.ops [⟨some 199, none, .mov (.tmp 10)⟩,
 ⟨some 200, none, .sl 1 (.tmp 199) none (some (.const (.int .i64 2))) none⟩,
 ⟨some 201, none, .lnl (.tmp 200)⟩,
 ⟨some 202, none, .mov (.const (.int .i64 0))⟩])
 (.block 1 (.loop (.seq (.ops [⟨some 203, none, .bin .lss (.tmp 202) (.tmp 201)⟩])
 (.seq (.cond (.tmp 203)
 .skip
 (.exit 1))
 (.seq (.block 2 (.seq (.ops [⟨some 204, none, .iad 1 (.tmp 200) (.tmp 202)⟩,
 ⟨some 205, none, .ld1 (.tmp 204)⟩,
 ⟨some 12, none, .mov (.tmp 205)⟩])
 (.ops [⟨some 206, none, .mov (.tmp 0)⟩,
 ⟨some 207, none, .nilck (.tmp 206)⟩,
 ⟨some 208, none, .fad (.tmp 207) 0⟩,
 ⟨some 209, none, .ld1 (.tmp 208)⟩,
 ⟨some 210, none, .mov (.tmp 12)⟩,
 ⟨some 211, none, .iad 6 (.tmp 209) (.tmp 210)⟩,
 ⟨some 212, none, .fad (.tmp 211) 0⟩,
 ⟨some 213, none, .ld1 (.tmp 212)⟩,
 ⟨some 214, none, .bin .eql (.tmp 213) (.const (.int .i64 7))⟩,
 ⟨some 215, none, .mov (.tmp 214)⟩,
 ⟨some 216, (some (215, true)), .mov (.tmp 0)⟩,
 ⟨some 217, (some (215, true)), .nilck (.tmp 216)⟩,
 ⟨some 218, (some (215, true)), .fad (.tmp 217) 0⟩,
 ⟨some 219, (some (215, true)), .ld1 (.tmp 218)⟩,
 ⟨some 220, (some (215, true)), .mov (.tmp 12)⟩,
 ⟨some 221, (some (215, true)), .iad 6 (.tmp 219) (.tmp 220)⟩,
 ⟨some 222, (some (215, true)), .fad (.tmp 221) 2⟩,
 ⟨some 223, (some (215, true)), .ld1 (.tmp 222)⟩,
 ⟨some 224, (some (215, true)), .bin .eql (.tmp 223) (.const (.int .i64 0))⟩,
 ⟨some 225, none, .pick (.tmp 215) (.tmp 224) (.const (.bool false))⟩,
 ⟨some 226, none, .call (.func 131) [(.tmp 225)]⟩])))
 (.ops [⟨some 227, none, .bin .add (.tmp 202) (.const (.int .i64 1))⟩,
 ⟨some 202, none, .mov (.tmp 227)⟩])))))))
 (.seq (.draw [⟨some 228, none, .mov (.tmp 9)⟩,
 ⟨some 229, none, .iad 1 (.tmp 228) (.const (.int .i64 1))⟩,
 ⟨some 230, none, .ld1 (.tmp 229)⟩,
 ⟨some 231, none, .mov (.tmp 10)⟩,
 ⟨some 232, none, .iad 1 (.tmp 231) (.const (.int .i64 2))⟩,
 ⟨some 233, none, .ld1 (.tmp 232)⟩,
 ⟨some 234, none, .agg [(.int .i64 0), (.int .i64 0), (.bool false)] [(0, 1, (.tmp 230)), (1, 1, (.tmp 233)), (2, 1, (.const (.bool true)))]⟩,
 ⟨none, none, .st 3 (.tmp 6) (.tmp 234)⟩,
 ⟨some 7, none, .mov (.const (.bool true))⟩] [(0, 3), (1, 3), (2, 3), (0, 4), (1, 4), (2, 4), (0, 5), (1, 5), (2, 5)])
 .ret))))
 .skip)))))))))
 (.seq (.ops [⟨some 235, none, .agg [(.int .i64 0), (.int .i64 0), (.bool false)] []⟩,
 ⟨none, none, .st 3 (.tmp 6) (.tmp 235)⟩,
 ⟨some 7, none, .mov (.const (.bool false))⟩])
 .ret)))))⟩
theorem ok221 : compF Tryz.prog Tryz.f221 = some c221 := by kernel_rfl
def c222 : CF := ⟨13, [.tmp 2],
 (.seq (.ops [⟨some 1, none, .box (.tmp 0)⟩,
 ⟨some 2, none, .mov (.const (.int .i64 0))⟩])
 (.seq (.seq (.ops [⟨some 3, none, .fad (.tmp 1) 0⟩,
 ⟨some 4, none, .ld1 (.tmp 3)⟩,
 ⟨some 5, none, .bin .eql (.tmp 4) (.const (.int .i64 8))⟩,
 ⟨some 6, none, .mov (.tmp 5)⟩,
 ⟨some 7, (some (6, false)), .fad (.tmp 1) 0⟩,
 ⟨some 8, (some (6, false)), .ld1 (.tmp 7)⟩,
 ⟨some 9, (some (6, false)), .bin .eql (.tmp 8) (.const (.int .i64 11))⟩,
 ⟨some 10, none, .pick (.tmp 6) (.const (.bool true)) (.tmp 9)⟩])
 (.cond (.tmp 10)
 (.seq (.ops [⟨some 11, none, .fad (.tmp 1) 2⟩,
 ⟨some 12, none, .ld1 (.tmp 11)⟩,
 ⟨some 2, none, .mov (.tmp 12)⟩])
 .ret)
 .skip))
 (.seq (.ops [⟨some 2, none, .mov (.const (.int .i64 0))⟩])
 .ret)))⟩
theorem ok222 : compF Tryz.prog Tryz.f222 = some c222 := by kernel_rfl
def c223 : CF := ⟨19, [.tmp 4],
 (.seq (.ops [⟨some 4, none, .mov (.const (.int .i64 0))⟩])
 (.seq (.seq (.ops [⟨some 6, none, .mov (.tmp 0)⟩,
 ⟨some 7, none, .lnl (.tmp 6)⟩,
 ⟨some 8, none, .mov (.const (.int .i64 0))⟩])
 (.block 0 (.loop (.seq (.ops [⟨some 9, none, .bin .lss (.tmp 8) (.tmp 7)⟩])
 (.seq (.cond (.tmp 9)
 .skip
 (.exit 0))
 (.seq (.block 1 (.seq (.ops [⟨some 10, none, .mov (.tmp 8)⟩,
 ⟨some 5, none, .mov (.tmp 10)⟩])
 (.seq (.ops [⟨some 11, none, .mov (.tmp 1)⟩,
 ⟨some 12, none, .mov (.tmp 0)⟩,
 ⟨some 13, none, .mov (.tmp 5)⟩,
 ⟨some 14, none, .iad 6 (.tmp 12) (.tmp 13)⟩,
 ⟨some 15, none, .ld 6 (.tmp 14)⟩,
 ⟨some 16, none, .call (.tmp 11) [(.tmp 15)]⟩])
 (.cond (.tmp 16)
 (.seq (.ops [⟨some 17, none, .mov (.tmp 5)⟩,
 ⟨some 4, none, .mov (.tmp 17)⟩])
 .ret)
 .skip))))
 (.ops [⟨some 18, none, .bin .add (.tmp 8) (.const (.int .i64 1))⟩,
 ⟨some 8, none, .mov (.tmp 18)⟩])))))))
 (.seq (.ops [⟨some 4, none, .mov (.const (.int .i64 (-1)))⟩])
 .ret)))⟩
theorem ok223 : compF Tryz.prog Tryz.f223 = some c223 := by kernel_rfl
def c224 : CF := ⟨8, [.cells 4 4],
 (.seq (.ops [⟨some 3, none, .box (.tmp 1)⟩,
 ⟨some 4, none, .newz [(.string ⟨#[]⟩), (.int .i64 0), (.bool false), .nilFunc]⟩])
 (.seq (.ops [⟨some 5, none, .mov (.tmp 0)⟩,
 ⟨some 6, none, .fn 225 [] [(.tmp 3)]⟩,
 ⟨some 7, none, .agg [(.string ⟨#[]⟩), (.int .i64 0), (.bool false), .nilFunc] [(0, 1, (.tmp 5)), (1, 1, (.const (.int .i64 1))), (2, 1, (.const (.bool false))), (3, 1, (.tmp 6))]⟩,
 ⟨none, none, .st 4 (.tmp 4) (.tmp 7)⟩])
 .ret))⟩
theorem ok224 : compF Tryz.prog Tryz.f224 = some c224 := by kernel_rfl
def c225 : CF := ⟨12, [.cells 3 3],
 (.seq (.ops [⟨some 2, none, .box (.tmp 0)⟩,
 ⟨some 3, none, .newz [(.slice none 0 0), (.int .i64 0), (.int .i64 0)]⟩])
 (.seq (.draw [⟨some 4, none, .fad (.tmp 2) 0⟩,
 ⟨some 5, none, .ld1 (.tmp 4)⟩,
 ⟨some 6, none, .iad 1 (.tmp 5) (.const (.int .i64 0))⟩,
 ⟨some 7, none, .ld1 (.tmp 6)⟩,
 ⟨some 8, none, .call (.func 227) [(.tmp 7)]⟩,
 ⟨some 9, none, .ld1 (.tmp 1)⟩,
 ⟨some 10, none, .bin .eql (.tmp 8) (.tmp 9)⟩,
 ⟨some 11, none, .call (.func 226) [(.tmp 10)]⟩,
 ⟨none, none, .st 3 (.tmp 3) (.tmp 11)⟩] [(0, 5), (1, 5), (2, 5), (3, 5), (4, 5)])
 .ret))⟩
theorem ok225 : compF Tryz.prog Tryz.f225 = some c225 := by kernel_rfl
def c226 : CF := ⟨12, [.cells 2 3],
 (.seq (.ops [⟨some 2, none, .newz [(.slice none 0 0), (.int .i64 0), (.int .i64 0)]⟩])
 (.seq (.ops [⟨some 4, none, .agg [(.int .i64 0), (.int .i64 0), (.int .i64 0), (.string ⟨#[]⟩), (.int .i32 0), (.int .i32 0)] [(0, 1, (.const (.int .i64 2)))]⟩,
 ⟨some 5, none, .lits [(.int .i64 0), (.int .i64 0), (.int .i64 0), (.string ⟨#[]⟩), (.int .i32 0), (.int .i32 0)] 1 [(0, 6, (.tmp 4))]⟩,
 ⟨some 3, none, .mov (.tmp 5)⟩])
 (.seq (.seq (.ops [⟨some 6, none, .mov (.tmp 0)⟩])
 (.cond (.tmp 6)
 (.ops [⟨some 7, none, .mov (.tmp 3)⟩,
 ⟨some 8, none, .iad 6 (.tmp 7) (.const (.int .i64 0))⟩,
 ⟨some 9, none, .fad (.tmp 8) 2⟩,
 ⟨none, none, .st 1 (.tmp 9) (.const (.int .i64 1))⟩])
 .skip))
 (.seq (.ops [⟨some 10, none, .mov (.tmp 3)⟩,
 ⟨some 11, none, .agg [(.slice none 0 0), (.int .i64 0), (.int .i64 0)] [(0, 1, (.tmp 10))]⟩,
 ⟨none, none, .st 3 (.tmp 2) (.tmp 11)⟩])
 .ret))))⟩
theorem ok226 : compF Tryz.prog Tryz.f226 = some c226 := by kernel_rfl
def c227 : CF := ⟨19, [.tmp 2],
 (.seq (.ops [⟨some 2, none, .mov (.const (.int .i64 0))⟩])
 (.seq (.seq (.ops [⟨some 3, none, .mov (.tmp 0)⟩,
 ⟨some 4, none, .iad 6 (.tmp 3) (.const (.int .i64 0))⟩,
 ⟨some 5, none, .fad (.tmp 4) 0⟩,
 ⟨some 6, none, .ld1 (.tmp 5)⟩,
 ⟨some 7, none, .bin .eql (.tmp 6) (.const (.int .i64 8))⟩,
 ⟨some 8, none, .mov (.tmp 7)⟩,
 ⟨some 9, (some (8, false)), .mov (.tmp 0)⟩,
 ⟨some 10, (some (8, false)), .iad 6 (.tmp 9) (.const (.int .i64 0))⟩,
 ⟨some 11, (some (8, false)), .fad (.tmp 10) 0⟩,
 ⟨some 12, (some (8, false)), .ld1 (.tmp 11)⟩,
 ⟨some 13, (some (8, false)), .bin .eql (.tmp 12) (.const (.int .i64 6))⟩,
 ⟨some 14, none, .pick (.tmp 8) (.const (.bool true)) (.tmp 13)⟩])
 (.cond (.tmp 14)
 (.seq (.ops [⟨some 2, none, .mov (.const (.int .i64 6))⟩])
 .ret)
 .skip))
 (.seq (.ops [⟨some 15, none, .mov (.tmp 0)⟩,
 ⟨some 16, none, .iad 6 (.tmp 15) (.const (.int .i64 0))⟩,
 ⟨some 17, none, .fad (.tmp 16) 0⟩,
 ⟨some 18, none, .ld1 (.tmp 17)⟩,
 ⟨some 2, none, .mov (.tmp 18)⟩])
 .ret)))⟩
theorem ok227 : compF Tryz.prog Tryz.f227 = some c227 := by kernel_rfl
def c228 : CF := ⟨26, [.cells 2 3],
 (.seq (.ops [⟨some 1, none, .box (.tmp 0)⟩,
 ⟨some 2, none, .newz [(.slice none 0 0), (.int .i64 0), (.int .i64 0)]⟩])
 (.seq (.ops [⟨some 4, none, .fad (.tmp 1) 1⟩,
 ⟨some 5, none, .ld1 (.tmp 4)⟩,
 ⟨some 6, none, .fad (.tmp 1) 2⟩,
 ⟨some 7, none, .ld1 (.tmp 6)⟩,
 ⟨some 8, none, .bin .add (.tmp 5) (.tmp 7)⟩,
 ⟨some 3, none, .mov (.tmp 8)⟩])
 (.seq (.ops [⟨some 9, none, .mov (.tmp 3)⟩,
 ⟨some 10, none, .fad (.tmp 1) 1⟩,
 ⟨some 11, none, .ld1 (.tmp 10)⟩,
 ⟨some 12, none, .bin .lss (.tmp 11) (.const (.int .i64 0))⟩,
 ⟨some 13, none, .fad (.tmp 1) 2⟩,
 ⟨some 14, none, .ld1 (.tmp 13)⟩,
 ⟨some 15, none, .bin .lss (.tmp 14) (.const (.int .i64 0))⟩,
 ⟨some 16, none, .eqb true (.tmp 12) (.tmp 15)⟩,
 ⟨some 17, none, .mov (.tmp 16)⟩,
 ⟨some 18, (some (17, false)), .mov (.tmp 3)⟩,
 ⟨some 19, (some (17, false)), .bin .lss (.tmp 18) (.const (.int .i64 0))⟩,
 ⟨some 20, (some (17, false)), .fad (.tmp 1) 1⟩,
 ⟨some 21, (some (17, false)), .ld1 (.tmp 20)⟩,
 ⟨some 22, (some (17, false)), .bin .lss (.tmp 21) (.const (.int .i64 0))⟩,
 ⟨some 23, (some (17, false)), .eqb false (.tmp 19) (.tmp 22)⟩,
 ⟨some 24, none, .pick (.tmp 17) (.const (.bool true)) (.tmp 23)⟩,
 ⟨some 25, none, .call (.func 256) [(.tmp 9), (.tmp 24)]⟩,
 ⟨none, none, .st 3 (.tmp 2) (.tmp 25)⟩])
 .ret)))⟩
theorem ok228 : compF Tryz.prog Tryz.f228 = some c228 := by kernel_rfl
def c229 : CF := ⟨26, [.cells 2 3],
 (.seq (.ops [⟨some 1, none, .box (.tmp 0)⟩,
 ⟨some 2, none, .newz [(.slice none 0 0), (.int .i64 0), (.int .i64 0)]⟩])
 (.seq (.ops [⟨some 4, none, .fad (.tmp 1) 1⟩,
 ⟨some 5, none, .ld1 (.tmp 4)⟩,
 ⟨some 6, none, .fad (.tmp 1) 2⟩,
 ⟨some 7, none, .ld1 (.tmp 6)⟩,
 ⟨some 8, none, .bin .sub (.tmp 5) (.tmp 7)⟩,
 ⟨some 3, none, .mov (.tmp 8)⟩])
 (.seq (.ops [⟨some 9, none, .mov (.tmp 3)⟩,
 ⟨some 10, none, .fad (.tmp 1) 1⟩,
 ⟨some 11, none, .ld1 (.tmp 10)⟩,
 ⟨some 12, none, .bin .lss (.tmp 11) (.const (.int .i64 0))⟩,
 ⟨some 13, none, .fad (.tmp 1) 2⟩,
 ⟨some 14, none, .ld1 (.tmp 13)⟩,
 ⟨some 15, none, .bin .lss (.tmp 14) (.const (.int .i64 0))⟩,
 ⟨some 16, none, .eqb false (.tmp 12) (.tmp 15)⟩,
 ⟨some 17, none, .mov (.tmp 16)⟩,
 ⟨some 18, (some (17, false)), .mov (.tmp 3)⟩,
 ⟨some 19, (some (17, false)), .bin .lss (.tmp 18) (.const (.int .i64 0))⟩,
 ⟨some 20, (some (17, false)), .fad (.tmp 1) 1⟩,
 ⟨some 21, (some (17, false)), .ld1 (.tmp 20)⟩,
 ⟨some 22, (some (17, false)), .bin .lss (.tmp 21) (.const (.int .i64 0))⟩,
 ⟨some 23, (some (17, false)), .eqb false (.tmp 19) (.tmp 22)⟩,
 ⟨some 24, none, .pick (.tmp 17) (.const (.bool true)) (.tmp 23)⟩,
 ⟨some 25, none, .call (.func 256) [(.tmp 9), (.tmp 24)]⟩,
 ⟨none, none, .st 3 (.tmp 2) (.tmp 25)⟩])
 .ret)))⟩
theorem ok229 : compF Tryz.prog Tryz.f229 = some c229 := by kernel_rfl
def c230 : CF := ⟨41, [.cells 2 3],
 (.seq (.ops [⟨some 1, none, .box (.tmp 0)⟩,
 ⟨some 2, none, .newz [(.slice none 0 0), (.int .i64 0), (.int .i64 0)]⟩])
 (.seq (.ops [⟨some 3, none, .mov (.func 257)⟩])
 (.seq (.ops [⟨some 4, none, .mov (.const (.int .u64 9223372036854775807))⟩])
 (.seq (.seq (.ops [⟨some 7, none, .fad (.tmp 1) 1⟩,
 ⟨some 8, none, .ld1 (.tmp 7)⟩,
 ⟨some 9, none, .bin .lss (.tmp 8) (.const (.int .i64 0))⟩,
 ⟨some 10, none, .fad (.tmp 1) 2⟩,
 ⟨some 11, none, .ld1 (.tmp 10)⟩,
 ⟨some 12, none, .bin .lss (.tmp 11) (.const (.int .i64 0))⟩,
 ⟨some 13, none, .eqb true (.tmp 9) (.tmp 12)⟩])
 (.cond (.tmp 13)
 (.ops [⟨some 14, none, .mov (.tmp 4)⟩,
 ⟨some 15, none, .bin .add (.tmp 14) (.const (.int .u64 1))⟩,
 ⟨some 4, none, .mov (.tmp 15)⟩])
 .skip))
 (.seq (.draw [⟨some 17, none, .mov (.tmp 3)⟩,
 ⟨some 18, none, .fad (.tmp 1) 1⟩,
 ⟨some 19, none, .ld1 (.tmp 18)⟩,
 ⟨some 20, none, .call (.tmp 17) [(.tmp 19)]⟩,
 ⟨some 21, none, .mov (.tmp 3)⟩,
 ⟨some 22, none, .fad (.tmp 1) 2⟩,
 ⟨some 23, none, .ld1 (.tmp 22)⟩,
 ⟨some 24, none, .call (.tmp 21) [(.tmp 23)]⟩,
 ⟨some 25, none, .call (.func 258) [(.tmp 20), (.tmp 24)]⟩,
 ⟨some 16, none, .mov (.tmp 25)⟩,
 ⟨some 26, none, .ext (.tmp 16) 0⟩,
 ⟨some 27, none, .ext (.tmp 16) 1⟩,
 ⟨some 5, none, .mov (.tmp 26)⟩,
 ⟨some 6, none, .mov (.tmp 27)⟩] [(0, 1), (0, 2), (0, 4), (1, 4), (2, 4), (3, 4), (0, 5), (1, 5), (2, 5), (3, 5), (4, 5), (0, 6), (1, 6), (2, 6), (3, 6), (4, 6), (10, 11), (11, 12)])
 (.seq (.ops [⟨some 28, none, .fad (.tmp 1) 1⟩,
 ⟨some 29, none, .ld1 (.tmp 28)⟩,
 ⟨some 30, none, .fad (.tmp 1) 2⟩,
 ⟨some 31, none, .ld1 (.tmp 30)⟩,
 ⟨some 32, none, .bin .mul (.tmp 29) (.tmp 31)⟩,
 ⟨some 33, none, .mov (.tmp 5)⟩,
 ⟨some 34, none, .bin .eql (.tmp 33) (.const (.int .u64 0))⟩,
 ⟨some 35, none, .mov (.tmp 34)⟩,
 ⟨some 36, (some (35, true)), .mov (.tmp 6)⟩,
 ⟨some 37, (some (35, true)), .mov (.tmp 4)⟩,
 ⟨some 38, (some (35, true)), .bin .leq (.tmp 36) (.tmp 37)⟩,
 ⟨some 39, none, .pick (.tmp 35) (.tmp 38) (.const (.bool false))⟩,
 ⟨some 40, none, .call (.func 256) [(.tmp 32), (.tmp 39)]⟩,
 ⟨none, none, .st 3 (.tmp 2) (.tmp 40)⟩])
 .ret))))))⟩
theorem ok230 : compF Tryz.prog Tryz.f230 = some c230 := by kernel_rfl
def c231 : CF := ⟨21, [.cells 2 3],
 (.seq (.ops [⟨some 1, none, .box (.tmp 0)⟩,
 ⟨some 2, none, .newz [(.slice none 0 0), (.int .i64 0), (.int .i64 0)]⟩])
 (.seq (.seq (.ops [⟨some 3, none, .fad (.tmp 1) 2⟩,
 ⟨some 4, none, .ld1 (.tmp 3)⟩,
 ⟨some 5, none, .bin .eql (.tmp 4) (.const (.int .i64 0))⟩])
 (.cond (.tmp 5)
 (.seq (.ops [⟨some 6, none, .agg [(.slice none 0 0), (.int .i64 0), (.int .i64 0)] [(1, 1, (.const (.int .i64 1))), (2, 1, (.const (.int .i64 21)))]⟩,
 ⟨none, none, .st 3 (.tmp 2) (.tmp 6)⟩])
 .ret)
 .skip))
 (.seq (.draw [⟨some 7, none, .fad (.tmp 1) 1⟩,
 ⟨some 8, none, .ld1 (.tmp 7)⟩,
 ⟨some 9, none, .fad (.tmp 1) 2⟩,
 ⟨some 10, none, .ld1 (.tmp 9)⟩,
 ⟨some 11, none, .bin .quo (.tmp 8) (.tmp 10)⟩,
 ⟨some 12, none, .fad (.tmp 1) 1⟩,
 ⟨some 13, none, .ld1 (.tmp 12)⟩,
 ⟨some 14, none, .bin .neq (.tmp 13) (.const (.int .i64 (-9223372036854775808)))⟩,
 ⟨some 15, none, .mov (.tmp 14)⟩,
 ⟨some 16, (some (15, false)), .fad (.tmp 1) 2⟩,
 ⟨some 17, (some (15, false)), .ld1 (.tmp 16)⟩,
 ⟨some 18, (some (15, false)), .bin .neq (.tmp 17) (.const (.int .i64 (-1)))⟩,
 ⟨some 19, none, .pick (.tmp 15) (.const (.bool true)) (.tmp 18)⟩,
 ⟨some 20, none, .call (.func 256) [(.tmp 11), (.tmp 19)]⟩,
 ⟨none, none, .st 3 (.tmp 2) (.tmp 20)⟩] [(0, 2), (1, 2), (0, 3), (1, 3), (0, 5), (1, 5), (2, 5), (3, 5), (4, 5), (0, 6), (1, 6), (2, 6), (3, 6), (4, 6), (0, 7), (1, 7), (2, 7), (3, 7), (4, 7), (0, 8), (1, 8), (2, 8), (3, 8), (4, 8), (0, 9), (1, 9), (2, 9), (3, 9), (4, 9), (0, 10), (1, 10), (2, 10), (3, 10), (4, 10), (0, 11), (1, 11), (2, 11), (3, 11), (4, 11), (0, 12), (1, 12), (2, 12), (3, 12), (4, 12)])
 .ret)))⟩
theorem ok231 : compF Tryz.prog Tryz.f231 = some c231 := by kernel_rfl
def c232 : CF := ⟨13, [.cells 2 3],
 (.seq (.ops [⟨some 1, none, .box (.tmp 0)⟩,
 ⟨some 2, none, .newz [(.slice none 0 0), (.int .i64 0), (.int .i64 0)]⟩])
 (.seq (.seq (.ops [⟨some 3, none, .fad (.tmp 1) 2⟩,
 ⟨some 4, none, .ld1 (.tmp 3)⟩,
 ⟨some 5, none, .bin .eql (.tmp 4) (.const (.int .i64 0))⟩])
 (.cond (.tmp 5)
 (.seq (.ops [⟨some 6, none, .agg [(.slice none 0 0), (.int .i64 0), (.int .i64 0)] [(1, 1, (.const (.int .i64 1))), (2, 1, (.const (.int .i64 21)))]⟩,
 ⟨none, none, .st 3 (.tmp 2) (.tmp 6)⟩])
 .ret)
 .skip))
 (.seq (.ops [⟨some 7, none, .fad (.tmp 1) 1⟩,
 ⟨some 8, none, .ld1 (.tmp 7)⟩,
 ⟨some 9, none, .fad (.tmp 1) 2⟩,
 ⟨some 10, none, .ld1 (.tmp 9)⟩,
 ⟨some 11, none, .bin .rem (.tmp 8) (.tmp 10)⟩,
 ⟨some 12, none, .call (.func 256) [(.tmp 11), (.const (.bool true))]⟩,
 ⟨none, none, .st 3 (.tmp 2) (.tmp 12)⟩])
 .ret)))⟩
theorem ok232 : compF Tryz.prog Tryz.f232 = some c232 := by kernel_rfl
def c233 : CF := ⟨9, [.cells 2 3],
 (.seq (.ops [⟨some 1, none, .box (.tmp 0)⟩,
 ⟨some 2, none, .newz [(.slice none 0 0), (.int .i64 0), (.int .i64 0)]⟩])
 (.seq (.ops [⟨some 3, none, .fad (.tmp 1) 1⟩,
 ⟨some 4, none, .ld1 (.tmp 3)⟩,
 ⟨some 5, none, .fad (.tmp 1) 2⟩,
 ⟨some 6, none, .ld1 (.tmp 5)⟩,
 ⟨some 7, none, .bin .eql (.tmp 4) (.tmp 6)⟩,
 ⟨some 8, none, .call (.func 226) [(.tmp 7)]⟩,
 ⟨none, none, .st 3 (.tmp 2) (.tmp 8)⟩])
 .ret))⟩
theorem ok233 : compF Tryz.prog Tryz.f233 = some c233 := by kernel_rfl
def c234 : CF := ⟨9, [.cells 2 3],
 (.seq (.ops [⟨some 1, none, .box (.tmp 0)⟩,
 ⟨some 2, none, .newz [(.slice none 0 0), (.int .i64 0), (.int .i64 0)]⟩])
 (.seq (.ops [⟨some 3, none, .fad (.tmp 1) 1⟩,
 ⟨some 4, none, .ld1 (.tmp 3)⟩,
 ⟨some 5, none, .fad (.tmp 1) 2⟩,
 ⟨some 6, none, .ld1 (.tmp 5)⟩,
 ⟨some 7, none, .bin .lss (.tmp 4) (.tmp 6)⟩,
 ⟨some 8, none, .call (.func 226) [(.tmp 7)]⟩,
 ⟨none, none, .st 3 (.tmp 2) (.tmp 8)⟩])
 .ret))⟩
theorem ok234 : compF Tryz.prog Tryz.f234 = some c234 := by kernel_rfl
def c235 : CF := ⟨28, [.cells 2 3],
 (.seq (.ops [⟨some 1, none, .box (.tmp 0)⟩,
 ⟨some 2, none, .newz [(.slice none 0 0), (.int .i64 0), (.int .i64 0)]⟩])
 (.seq (.draw [⟨some 6, none, .agg [(.int .i64 0), (.int .i64 0), (.int .i64 0), (.string ⟨#[]⟩), (.int .i32 0), (.int .i32 0)] [(0, 1, (.const (.int .i64 5))), (1, 1, (.const (.int .i64 2)))]⟩,
 ⟨some 7, none, .lits [(.int .i64 0), (.int .i64 0), (.int .i64 0), (.string ⟨#[]⟩), (.int .i32 0), (.int .i32 0)] 1 [(0, 6, (.tmp 6))]⟩,
 ⟨some 8, none, .fad (.tmp 1) 0⟩,
 ⟨some 9, none, .ld1 (.tmp 8)⟩,
 ⟨some 10, none, .iad 1 (.tmp 9) (.const (.int .i64 0))⟩,
 ⟨some 11, none, .ld1 (.tmp 10)⟩,
 ⟨some 12, none, .fad (.tmp 1) 0⟩,
 ⟨some 13, none, .ld1 (.tmp 12)⟩,
 ⟨some 14, none, .iad 1 (.tmp 13) (.const (.int .i64 1))⟩,
 ⟨some 15, none, .ld1 (.tmp 14)⟩,
 ⟨some 16, none, .lits [(.slice none 0 0), (.slice none 0 0), (.slice none 0 0)] 3 [(0, 1, (.tmp 7)), (1, 1, (.tmp 11)), (2, 1, (.tmp 15))]⟩,
 ⟨some 17, none, .call (.func 95) [(.tmp 16)]⟩,
 ⟨some 3, none, .mov (.tmp 17)⟩] [(0, 2), (1, 2), (0, 3), (1, 3), (0, 4), (1, 4), (0, 5), (1, 5), (0, 6), (1, 6), (2, 6), (3, 6), (4, 6), (5, 6), (0, 7), (1, 7), (2, 7), (3, 7), (4, 7), (5, 7), (0, 8), (1, 8), (2, 8), (3, 8), (4, 8), (5, 8), (0, 9), (1, 9), (2, 9), (3, 9), (4, 9), (5, 9)])
 (.seq (.seq (.ops [⟨some 19, none, .mov (.tmp 3)⟩,
 ⟨some 20, none, .call (.func 37) [(.tmp 19), (.const (.bool false))]⟩,
 ⟨some 18, none, .mov (.tmp 20)⟩,
 ⟨some 21, none, .ext (.tmp 18) 0⟩,
 ⟨some 22, none, .ext (.tmp 18) 1⟩,
 ⟨some 4, none, .mov (.tmp 21)⟩,
 ⟨some 5, none, .mov (.tmp 22)⟩])
 (.seq (.ops [⟨some 23, none, .mov (.tmp 5)⟩,
 ⟨some 24, none, .bin .neq (.tmp 23) (.const (.int .i64 0))⟩])
 (.cond (.tmp 24)
 (.seq (.ops [⟨some 25, none, .agg [(.slice none 0 0), (.int .i64 0), (.int .i64 0)] [(2, 1, (.const (.int .i64 3)))]⟩,
 ⟨none, none, .st 3 (.tmp 2) (.tmp 25)⟩])
 .ret)
 .skip)))
 (.seq (.ops [⟨some 26, none, .mov (.tmp 3)⟩,
 ⟨some 27, none, .agg [(.slice none 0 0), (.int .i64 0), (.int .i64 0)] [(0, 1, (.tmp 26))]⟩,
 ⟨none, none, .st 3 (.tmp 2) (.tmp 27)⟩])
 .ret))))⟩
theorem ok235 : compF Tryz.prog Tryz.f235 = some c235 := by kernel_rfl
def c236 : CF := ⟨5, [.cells 2 3],
 (.seq (.ops [⟨some 1, none, .box (.tmp 0)⟩,
 ⟨some 2, none, .newz [(.slice none 0 0), (.int .i64 0), (.int .i64 0)]⟩])
 (.seq (.ops [⟨some 3, none, .ld 3 (.tmp 1)⟩,
 ⟨some 4, none, .call (.func 237) [(.tmp 3), (.const (.bool false))]⟩,
 ⟨none, none, .st 3 (.tmp 2) (.tmp 4)⟩])
 .ret))⟩
theorem ok236 : compF Tryz.prog Tryz.f236 = some c236 := by kernel_rfl
def c237 : CF := ⟨32, [.cells 4 3],
 (.seq (.ops [⟨some 2, none, .box (.tmp 0)⟩,
 ⟨some 4, none, .newz [(.slice none 0 0), (.int .i64 0), (.int .i64 0)]⟩])
 (.seq (.ops [⟨some 8, none, .fad (.tmp 2) 0⟩,
 ⟨some 9, none, .ld1 (.tmp 8)⟩,
 ⟨some 10, none, .iad 1 (.tmp 9) (.const (.int .i64 0))⟩,
 ⟨some 11, none, .ld1 (.tmp 10)⟩,
 ⟨some 5, none, .mov (.tmp 11)⟩])
 (.seq (.seq (.ops [⟨some 12, none, .mov (.tmp 5)⟩,
 ⟨some 13, none, .iad 6 (.tmp 12) (.const (.int .i64 0))⟩,
 ⟨some 14, none, .fad (.tmp 13) 0⟩,
 ⟨some 15, none, .ld1 (.tmp 14)⟩,
 ⟨some 16, none, .bin .neq (.tmp 15) (.const (.int .i64 5))⟩])
 (.cond (.tmp 16)
 (.seq (.ops [⟨some 17, none, .agg [(.slice none 0 0), (.int .i64 0), (.int .i64 0)] [(2, 1, (.const (.int .i64 19)))]⟩,
 ⟨none, none, .st 3 (.tmp 4) (.tmp 17)⟩])
 .ret)
 .skip))
 (.seq (.ops [⟨some 19, none, .mov (.tmp 5)⟩,
 ⟨some 20, none, .call (.func 259) [(.tmp 19), (.const (.int .i64 1))]⟩,
 ⟨some 18, none, .mov (.tmp 20)⟩,
 ⟨some 21, none, .ext (.tmp 18) 0⟩,
 ⟨some 22, none, .ext (.tmp 18) 1⟩,
 ⟨some 6, none, .mov (.tmp 21)⟩,
 ⟨some 7, none, .mov (.tmp 22)⟩])
 (.seq (.seq (.ops [⟨some 23, none, .mov (.tmp 1)⟩])
 (.cond (.tmp 23)
 (.ops [⟨some 24, none, .mov (.tmp 5)⟩,
 ⟨some 25, none, .mov (.tmp 6)⟩,
 ⟨some 26, none, .lnl (.tmp 25)⟩,
 ⟨some 27, none, .bin .add (.const (.int .i64 1)) (.tmp 26)⟩,
 ⟨some 28, none, .sl 6 (.tmp 24) (some (.tmp 27)) none none⟩,
 ⟨some 29, none, .call (.func 40) [(.tmp 28)]⟩,
 ⟨some 6, none, .mov (.tmp 29)⟩])
 .skip))
 (.seq (.ops [⟨some 30, none, .mov (.tmp 6)⟩,
 ⟨some 31, none, .agg [(.slice none 0 0), (.int .i64 0), (.int .i64 0)] [(0, 1, (.tmp 30))]⟩,
 ⟨none, none, .st 3 (.tmp 4) (.tmp 31)⟩])
 .ret))))))⟩
theorem ok237 : compF Tryz.prog Tryz.f237 = some c237 := by kernel_rfl
def c238 : CF := ⟨5, [.cells 2 3],
 (.seq (.ops [⟨some 1, none, .box (.tmp 0)⟩,
 ⟨some 2, none, .newz [(.slice none 0 0), (.int .i64 0), (.int .i64 0)]⟩])
 (.seq (.ops [⟨some 3, none, .ld 3 (.tmp 1)⟩,
 ⟨some 4, none, .call (.func 237) [(.tmp 3), (.const (.bool true))]⟩,
 ⟨none, none, .st 3 (.tmp 2) (.tmp 4)⟩])
 .ret))⟩
theorem ok238 : compF Tryz.prog Tryz.f238 = some c238 := by kernel_rfl
def c239 : CF := ⟨47, [.cells 2 3],
 (.seq (.ops [⟨some 1, none, .box (.tmp 0)⟩,
 ⟨some 2, none, .newz [(.slice none 0 0), (.int .i64 0), (.int .i64 0)]⟩])
 (.seq (.draw [⟨some 5, none, .fad (.tmp 1) 0⟩,
 ⟨some 6, none, .ld1 (.tmp 5)⟩,
 ⟨some 7, none, .iad 1 (.tmp 6) (.const (.int .i64 0))⟩,
 ⟨some 8, none, .ld1 (.tmp 7)⟩,
 ⟨some 9, none, .iad 6 (.tmp 8) (.const (.int .i64 0))⟩,
 ⟨some 10, none, .ld 6 (.tmp 9)⟩,
 ⟨some 11, none, .fad (.tmp 1) 0⟩,
 ⟨some 12, none, .ld1 (.tmp 11)⟩,
 ⟨some 13, none, .iad 1 (.tmp 12) (.const (.int .i64 1))⟩,
 ⟨some 14, none, .ld1 (.tmp 13)⟩,
 ⟨some 15, none, .iad 6 (.tmp 14) (.const (.int .i64 0))⟩,
 ⟨some 16, none, .ld 6 (.tmp 15)⟩,
 ⟨some 3, none, .newz [(.int .i64 0), (.int .i64 0), (.int .i64 0), (.string ⟨#[]⟩), (.int .i32 0), (.int .i32 0)]⟩,
 ⟨some 4, none, .newz [(.int .i64 0), (.int .i64 0), (.int .i64 0), (.string ⟨#[]⟩), (.int .i32 0), (.int .i32 0)]⟩,
 ⟨none, none, .st 6 (.tmp 3) (.tmp 10)⟩,
 ⟨none, none, .st 6 (.tmp 4) (.tmp 16)⟩] [(0, 6), (1, 6), (2, 6), (3, 6), (4, 6), (5, 6), (0, 7), (1, 7), (2, 7), (3, 7), (4, 7), (5, 7), (0, 8), (1, 8), (2, 8), (3, 8), (4, 8), (5, 8), (0, 9), (1, 9), (2, 9), (3, 9), (4, 9), (5, 9), (0, 10), (1, 10), (2, 10), (3, 10), (4, 10), (5, 10), (0, 11), (1, 11), (2, 11), (3, 11), (4, 11), (5, 11), (0, 12), (1, 12), (2, 12), (3, 12), (4, 12), (5, 12), (6, 12), (7, 12), (8, 12), (9, 12), (10, 12), (11, 12), (0, 13), (1, 13), (2, 13), (3, 13), (4, 13), (5, 13), (6, 13), (7, 13), (8, 13), (9, 13), (10, 13), (11, 13), (12, 13), (6, 14), (7, 14), (8, 14), (9, 14), (10, 14), (11, 14)])
 (.seq (.block 0 (.seq (.ops [⟨some 18, none, .fad (.tmp 3) 0⟩,
 ⟨some 19, none, .ld1 (.tmp 18)⟩,
 ⟨some 20, none, .fad (.tmp 4) 0⟩,
 ⟨some 21, none, .ld1 (.tmp 20)⟩,
 ⟨some 22, none, .bin .neq (.tmp 19) (.tmp 21)⟩,
 ⟨some 17, none, .mov (.tmp 22)⟩])
 (.cond (.tmp 17)
 (.seq (.ops [⟨some 23, none, .call (.func 226) [(.const (.bool false))]⟩,
 ⟨none, none, .st 3 (.tmp 2) (.tmp 23)⟩])
 .ret)
 (.seq (.ops [⟨some 25, none, .fad (.tmp 3) 0⟩,
 ⟨some 26, none, .ld1 (.tmp 25)⟩,
 ⟨some 27, none, .bin .eql (.tmp 26) (.const (.int .i64 5))⟩,
 ⟨some 28, none, .mov (.tmp 27)⟩,
 ⟨some 29, (some (28, false)), .fad (.tmp 3) 0⟩,
 ⟨some 30, (some (28, false)), .ld1 (.tmp 29)⟩,
 ⟨some 31, (some (28, false)), .bin .eql (.tmp 30) (.const (.int .i64 8))⟩,
 ⟨some 32, none, .pick (.tmp 28) (.const (.bool true)) (.tmp 31)⟩,
 ⟨some 24, none, .mov (.tmp 32)⟩])
 (.cond (.tmp 24)
 (.seq (.ops [⟨some 33, none, .call (.func 226) [(.const (.bool false))]⟩,
 ⟨none, none, .st 3 (.tmp 2) (.tmp 33)⟩])
 .ret)
 .skip)))))
 (.seq (.ops [⟨some 34, none, .fad (.tmp 3) 2⟩,
 ⟨some 35, none, .ld1 (.tmp 34)⟩,
 ⟨some 36, none, .fad (.tmp 4) 2⟩,
 ⟨some 37, none, .ld1 (.tmp 36)⟩,
 ⟨some 38, none, .bin .eql (.tmp 35) (.tmp 37)⟩,
 ⟨some 39, none, .mov (.tmp 38)⟩,
 ⟨some 40, (some (39, true)), .fad (.tmp 3) 3⟩,
 ⟨some 41, (some (39, true)), .ld1 (.tmp 40)⟩,
 ⟨some 42, (some (39, true)), .fad (.tmp 4) 3⟩,
 ⟨some 43, (some (39, true)), .ld1 (.tmp 42)⟩,
 ⟨some 44, (some (39, true)), .bin .eql (.tmp 41) (.tmp 43)⟩,
 ⟨some 45, none, .pick (.tmp 39) (.tmp 44) (.const (.bool false))⟩,
 ⟨some 46, none, .call (.func 226) [(.tmp 45)]⟩,
 ⟨none, none, .st 3 (.tmp 2) (.tmp 46)⟩])
 .ret))))⟩
theorem ok239 : compF Tryz.prog Tryz.f239 = some c239 := by kernel_rfl
def c240 : CF := ⟨22, [.cells 2 3],
 (.seq (.ops [⟨some 1, none, .box (.tmp 0)⟩,
 ⟨some 2, none, .newz [(.slice none 0 0), (.int .i64 0), (.int .i64 0)]⟩])
 (.seq (.ops [⟨some 3, none, .fad (.tmp 1) 0⟩,
 ⟨some 4, none, .ld1 (.tmp 3)⟩,
 ⟨some 5, none, .iad 1 (.tmp 4) (.const (.int .i64 0))⟩,
 ⟨some 6, none, .ld1 (.tmp 5)⟩,
 ⟨some 7, none, .iad 6 (.tmp 6) (.const (.int .i64 0))⟩,
 ⟨some 8, none, .fad (.tmp 7) 0⟩,
 ⟨some 9, none, .ld1 (.tmp 8)⟩,
 ⟨some 10, none, .bin .eql (.tmp 9) (.const (.int .i64 2))⟩,
 ⟨some 11, none, .mov (.tmp 10)⟩,
 ⟨some 12, (some (11, true)), .fad (.tmp 1) 0⟩,
 ⟨some 13, (some (11, true)), .ld1 (.tmp 12)⟩,
 ⟨some 14, (some (11, true)), .iad 1 (.tmp 13) (.const (.int .i64 0))⟩,
 ⟨some 15, (some (11, true)), .ld1 (.tmp 14)⟩,
 ⟨some 16, (some (11, true)), .iad 6 (.tmp 15) (.const (.int .i64 0))⟩,
 ⟨some 17, (some (11, true)), .fad (.tmp 16) 2⟩,
 ⟨some 18, (some (11, true)), .ld1 (.tmp 17)⟩,
 ⟨some 19, (some (11, true)), .bin .eql (.tmp 18) (.const (.int .i64 0))⟩,
 ⟨some 20, none, .pick (.tmp 11) (.tmp 19) (.const (.bool false))⟩,
 ⟨some 21, none, .call (.func 226) [(.tmp 20)]⟩,
 ⟨none, none, .st 3 (.tmp 2) (.tmp 21)⟩])
 .ret))⟩
theorem ok240 : compF Tryz.prog Tryz.f240 = some c240 := by kernel_rfl
def c241 : CF := ⟨10, [.tmp 4],
 (.seq (.ops [⟨some 4, none, .mov (.const (.bool false))⟩])
 (.seq (.ops [⟨some 5, none, .mov (.tmp 0)⟩,
 ⟨some 6, none, .mov (.tmp 1)⟩,
 ⟨some 7, none, .nilck (.tmp 5)⟩,
 ⟨some 8, none, .iaa 256 1 (.tmp 7) (.tmp 6)⟩,
 ⟨some 9, none, .ld1 (.tmp 8)⟩,
 ⟨some 4, none, .mov (.tmp 9)⟩])
 .ret))⟩
theorem ok241 : compF Tryz.prog Tryz.f241 = some c241 := by kernel_rfl
def c242 : CF := ⟨19, [.tmp 2, .tmp 3],
 (.seq (.ops [⟨some 2, none, .mov (.const (.int .i32 0))⟩,
 ⟨some 3, none, .mov (.const (.int .i64 0))⟩])
 (.seq (.seq (.ops [⟨some 4, none, .mov (.tmp 0)⟩,
 ⟨some 5, none, .bin .neq (.tmp 4) (.const (.string ⟨#[]⟩))⟩,
 ⟨some 6, none, .mov (.tmp 5)⟩,
 ⟨some 7, (some (6, true)), .mov (.tmp 0)⟩,
 ⟨some 8, (some (6, true)), .ids (.tmp 7) (.const (.int .i64 0))⟩,
 ⟨some 9, (some (6, true)), .bin .lss (.tmp 8) (.const (.int .u8 128))⟩,
 ⟨some 10, none, .pick (.tmp 6) (.tmp 9) (.const (.bool false))⟩])
 (.cond (.tmp 10)
 (.seq (.ops [⟨some 11, none, .mov (.tmp 0)⟩,
 ⟨some 12, none, .ids (.tmp 11) (.const (.int .i64 0))⟩,
 ⟨some 13, none, .cvi .i32 (.tmp 12)⟩,
 ⟨some 2, none, .mov (.tmp 13)⟩,
 ⟨some 3, none, .mov (.const (.int .i64 1))⟩])
 .ret)
 (.ops [⟨some 15, none, .mov (.tmp 0)⟩,
 ⟨some 16, none, .call (.func 260) [(.tmp 15)]⟩,
 ⟨some 14, none, .mov (.tmp 16)⟩,
 ⟨some 17, none, .ext (.tmp 14) 0⟩,
 ⟨some 18, none, .ext (.tmp 14) 1⟩,
 ⟨some 2, none, .mov (.tmp 17)⟩,
 ⟨some 3, none, .mov (.tmp 18)⟩])))
 .ret))⟩
theorem ok242 : compF Tryz.prog Tryz.f242 = some c242 := by kernel_rfl
def c243 : CF := ⟨9, [.tmp 4],
 (.seq (.ops [⟨some 4, none, .mov (.const (.bool false))⟩])
 (.seq (.ops [⟨some 5, none, .mov (.tmp 0)⟩,
 ⟨some 6, none, .mov (.tmp 1)⟩,
 ⟨some 7, none, .call (.func 244) [(.tmp 5), (.tmp 6)]⟩,
 ⟨some 8, none, .bin .geq (.tmp 7) (.const (.int .i64 0))⟩,
 ⟨some 4, none, .mov (.tmp 8)⟩])
 .ret))⟩
theorem ok243 : compF Tryz.prog Tryz.f243 = some c243 := by kernel_rfl
def c244 : CF := ⟨187, [.tmp 4],
 (.seq (.ops [⟨some 4, none, .mov (.const (.int .i64 0))⟩])
 (.block 0 (.seq (.ops [⟨some 161, none, .mov (.tmp 1)⟩,
 ⟨some 162, none, .bin .leq (.const (.int .i32 0)) (.tmp 161)⟩,
 ⟨some 163, none, .mov (.tmp 162)⟩,
 ⟨some 164, (some (163, true)), .mov (.tmp 1)⟩,
 ⟨some 165, (some (163, true)), .bin .lss (.tmp 164) (.const (.int .i32 128))⟩,
 ⟨some 166, none, .pick (.tmp 163) (.tmp 165) (.const (.bool false))⟩,
 ⟨some 160, none, .mov (.tmp 166)⟩])
 (.cond (.tmp 160)
 (.seq (.ops [⟨some 167, none, .mov (.tmp 0)⟩,
 ⟨some 168, none, .mov (.tmp 1)⟩,
 ⟨some 169, none, .cvi .u8 (.tmp 168)⟩,
 ⟨some 170, none, .call (.func 261) [(.tmp 167), (.tmp 169)]⟩,
 ⟨some 4, none, .mov (.tmp 170)⟩])
 .ret)
 (.seq (.ops [⟨some 172, none, .mov (.tmp 1)⟩,
 ⟨some 173, none, .bin .eql (.tmp 172) (.const (.int .i32 65533))⟩,
 ⟨some 171, none, .mov (.tmp 173)⟩])
 (.cond (.tmp 171)
 (.seq (.seq (.ops [⟨some 174, none, .mov (.tmp 0)⟩,
 ⟨some 175, none, .itr (.tmp 174)⟩])
 (.block 9 (.loop (.seq (.ops [⟨some 176, none, .nxt (.tmp 175)⟩,
 ⟨some 177, none, .ext (.tmp 176) 0⟩])
 (.seq (.cond (.tmp 177)
 .skip
 (.exit 9))
 (.block 10 (.seq (.ops [⟨some 178, none, .ext (.tmp 176) 1⟩,
 ⟨some 179, none, .ext (.tmp 176) 2⟩,
 ⟨some 5, none, .mov (.tmp 178)⟩,
 ⟨some 6, none, .mov (.tmp 179)⟩])
 (.seq (.ops [⟨some 180, none, .mov (.tmp 6)⟩,
 ⟨some 181, none, .bin .eql (.tmp 180) (.const (.int .i32 65533))⟩])
 (.cond (.tmp 181)
 (.seq (.ops [⟨some 182, none, .mov (.tmp 5)⟩,
 ⟨some 4, none, .mov (.tmp 182)⟩])
 .ret)
 .skip)))))))))
 (.seq (.ops [⟨some 4, none, .mov (.const (.int .i64 (-1)))⟩])
 .ret))
 (.seq (.ops [⟨some 184, none, .mov (.tmp 1)⟩,
 ⟨some 185, none, .call (.func 249) [(.tmp 184)]⟩,
 ⟨some 186, none, .un .not (.tmp 185)⟩,
 ⟨some 183, none, .mov (.tmp 186)⟩])
 (.cond (.tmp 183)
 (.seq (.ops [⟨some 4, none, .mov (.const (.int .i64 (-1)))⟩])
 .ret)
 (.scope (.seq (.ops [⟨some 17, none, .mov (.tmp 1)⟩,
 ⟨some 18, none, .bad⟩,
 ⟨some 7, none, .mov (.tmp 18)⟩])
 (.seq (.ops [⟨some 19, none, .mov (.tmp 7)⟩,
 ⟨some 20, none, .lns (.tmp 19)⟩,
 ⟨some 21, none, .bin .sub (.tmp 20) (.const (.int .i64 1))⟩,
 ⟨some 8, none, .mov (.tmp 21)⟩])
 (.seq (.ops [⟨some 22, none, .mov (.tmp 8)⟩,
 ⟨some 9, none, .mov (.tmp 22)⟩])
 (.seq (.ops [⟨some 10, none, .mov (.const (.int .i64 0))⟩])
 (.seq (.block 1 (.loop (.seq (.seq (.ops [⟨some 23, none, .mov (.tmp 9)⟩,
 ⟨some 24, none, .mov (.tmp 0)⟩,
 ⟨some 25, none, .lns (.tmp 24)⟩,
 ⟨some 26, none, .bin .lss (.tmp 23) (.tmp 25)⟩])
 (.cond (.tmp 26)
 .skip
 (.exit 1)))
 (.block 2 (.scope (.seq (.seq (.draw [⟨some 27, none, .mov (.tmp 0)⟩,
 ⟨some 28, none, .mov (.tmp 9)⟩,
 ⟨some 29, none, .ids (.tmp 27) (.tmp 28)⟩,
 ⟨some 30, none, .mov (.tmp 7)⟩,
 ⟨some 31, none, .mov (.tmp 8)⟩,
 ⟨some 32, none, .ids (.tmp 30) (.tmp 31)⟩,
 ⟨some 33, none, .bin .neq (.tmp 29) (.tmp 32)⟩] [(0, 1), (0, 3), (1, 3), (2, 3), (0, 4), (1, 4), (2, 4), (3, 4), (0, 5), (1, 5), (2, 5)])
 (.cond (.tmp 33)
 (.seq (.draw [⟨some 34, none, .mov (.tmp 0)⟩,
 ⟨some 35, none, .mov (.tmp 9)⟩,
 ⟨some 36, none, .bin .add (.tmp 35) (.const (.int .i64 1))⟩,
 ⟨some 37, none, .sls (.tmp 34) (some (.tmp 36)) none⟩,
 ⟨some 38, none, .mov (.tmp 7)⟩,
 ⟨some 39, none, .mov (.tmp 8)⟩,
 ⟨some 40, none, .ids (.tmp 38) (.tmp 39)⟩,
 ⟨some 41, none, .call (.func 261) [(.tmp 37), (.tmp 40)]⟩,
 ⟨some 11, none, .mov (.tmp 41)⟩] [(0, 1), (0, 2), (0, 4), (1, 4), (2, 4), (3, 4), (0, 5), (1, 5), (2, 5), (3, 5), (4, 5), (0, 6), (1, 6), (2, 6), (3, 6)])
 (.seq (.seq (.ops [⟨some 42, none, .mov (.tmp 11)⟩,
 ⟨some 43, none, .bin .lss (.tmp 42) (.const (.int .i64 0))⟩])
 (.cond (.tmp 43)
 (.seq (.ops [⟨some 4, none, .mov (.const (.int .i64 (-1)))⟩])
 .ret)
 .skip))
 (.ops [⟨some 44, none, .mov (.tmp 9)⟩,
 ⟨some 45, none, .mov (.tmp 11)⟩,
 ⟨some 46, none, .bin .add (.tmp 45) (.const (.int .i64 1))⟩,
 ⟨some 47, none, .bin .add (.tmp 44) (.tmp 46)⟩,
 ⟨some 9, none, .mov (.tmp 47)⟩])))
 .skip))
 (.seq (.seq (.ops [⟨some 12, none, .mov (.const (.int .i64 1))⟩])
 (.block 3 (.loop (.seq (.seq (.ops [⟨some 48, none, .mov (.tmp 12)⟩,
 ⟨some 49, none, .mov (.tmp 7)⟩,
 ⟨some 50, none, .lns (.tmp 49)⟩,
 ⟨some 51, none, .bin .lss (.tmp 48) (.tmp 50)⟩])
 (.cond (.tmp 51)
 .skip
 (.exit 3)))
 (.seq (.block 4 (.seq (.draw [⟨some 54, none, .mov (.tmp 0)⟩,
 ⟨some 55, none, .mov (.tmp 9)⟩,
 ⟨some 56, none, .mov (.tmp 12)⟩,
 ⟨some 57, none, .bin .sub (.tmp 55) (.tmp 56)⟩,
 ⟨some 58, none, .ids (.tmp 54) (.tmp 57)⟩,
 ⟨some 59, none, .mov (.tmp 7)⟩,
 ⟨some 60, none, .mov (.tmp 8)⟩,
 ⟨some 61, none, .mov (.tmp 12)⟩,
 ⟨some 62, none, .bin .sub (.tmp 60) (.tmp 61)⟩,
 ⟨some 63, none, .ids (.tmp 59) (.tmp 62)⟩,
 ⟨some 64, none, .bin .neq (.tmp 58) (.tmp 63)⟩] [(0, 1), (0, 2), (1, 2), (0, 3), (0, 5), (1, 5), (2, 5), (3, 5), (4, 5), (0, 6), (1, 6), (2, 6), (3, 6), (4, 6), (5, 6), (0, 7), (1, 7), (2, 7), (3, 7), (4, 7), (5, 7), (6, 7), (0, 8), (1, 8), (2, 8), (3, 8), (4, 8), (5, 8), (0, 9), (1, 9), (2, 9), (3, 9), (4, 9)])
 (.cond (.tmp 64)
 (.goto 0)
 .skip)))
 (.ops [⟨some 52, none, .mov (.tmp 12)⟩,
 ⟨some 53, none, .bin .add (.tmp 52) (.const (.int .i64 1))⟩,
 ⟨some 12, none, .mov (.tmp 53)⟩]))))))
 (.seq (.seq (.ops [⟨some 65, none, .mov (.tmp 9)⟩,
 ⟨some 66, none, .mov (.tmp 8)⟩,
 ⟨some 67, none, .bin .sub (.tmp 65) (.tmp 66)⟩,
 ⟨some 4, none, .mov (.tmp 67)⟩])
 .ret)
 (.seq (.label 0)
 (.seq (.ops [⟨some 68, none, .mov (.tmp 10)⟩,
 ⟨some 69, none, .bin .add (.tmp 68) (.const (.int .i64 1))⟩,
 ⟨some 10, none, .mov (.tmp 69)⟩])
 (.seq (.ops [⟨some 70, none, .mov (.tmp 9)⟩,
 ⟨some 71, none, .bin .add (.tmp 70) (.const (.int .i64 1))⟩,
 ⟨some 9, none, .mov (.tmp 71)⟩])
 (.seq (.ops [⟨some 72, none, .mov (.const (.bool true))⟩,
 ⟨some 73, (some (72, true)), .mov (.tmp 10)⟩,
 ⟨some 74, (some (72, true)), .mov (.tmp 9)⟩,
 ⟨some 75, (some (72, true)), .call (.func 262) [(.tmp 74)]⟩,
 ⟨some 76, (some (72, true)), .bin .gtr (.tmp 73) (.tmp 75)⟩,
 ⟨some 77, none, .pick (.tmp 72) (.tmp 76) (.const (.bool false))⟩,
 ⟨some 78, none, .mov (.tmp 77)⟩,
 ⟨some 79, (some (78, true)), .mov (.tmp 9)⟩,
 ⟨some 80, (some (78, true)), .mov (.tmp 0)⟩,
 ⟨some 81, (some (78, true)), .lns (.tmp 80)⟩,
 ⟨some 82, (some (78, true)), .bin .lss (.tmp 79) (.tmp 81)⟩,
 ⟨some 83, none, .pick (.tmp 78) (.tmp 82) (.const (.bool false))⟩,
 ⟨some 84, none, .mov (.tmp 83)⟩,
 ⟨some 85, (some (84, false)), .mov (.const (.bool false))⟩,
 ⟨some 86, (some (85, true)), .mov (.tmp 10)⟩,
 ⟨some 87, (some (85, true)), .mov (.tmp 9)⟩,
 ⟨some 88, (some (85, true)), .bin .shr (.tmp 87) (.const (.int .u64 4))⟩,
 ⟨some 89, (some (85, true)), .bin .add (.const (.int .i64 4)) (.tmp 88)⟩,
 ⟨some 90, (some (85, true)), .bin .geq (.tmp 86) (.tmp 89)⟩,
 ⟨some 91, (some (84, false)), .pick (.tmp 85) (.tmp 90) (.const (.bool false))⟩,
 ⟨some 92, (some (84, false)), .mov (.tmp 91)⟩,
 ⟨some 93, (some (92, true)), .mov (.tmp 9)⟩,
 ⟨some 94, (some (92, true)), .mov (.tmp 0)⟩,
 ⟨some 95, (some (92, true)), .lns (.tmp 94)⟩,
 ⟨some 96, (some (92, true)), .bin .lss (.tmp 93) (.tmp 95)⟩,
 ⟨some 97, (some (84, false)), .pick (.tmp 92) (.tmp 96) (.const (.bool false))⟩,
 ⟨some 98, none, .pick (.tmp 84) (.const (.bool true)) (.tmp 97)⟩])
 (.cond (.tmp 98)
 (.goto 1)
 .skip)))))))))))))
 (.seq (.seq (.ops [⟨some 4, none, .mov (.const (.int .i64 (-1)))⟩])
 .ret)
 (.seq (.label 1)
 (.seq (.cond (.const (.bool true))
 (.seq (.ops [⟨some 99, none, .mov (.tmp 0)⟩,
 ⟨some 100, none, .mov (.tmp 9)⟩,
 ⟨some 101, none, .mov (.tmp 8)⟩,
 ⟨some 102, none, .bin .sub (.tmp 100) (.tmp 101)⟩,
 ⟨some 103, none, .sls (.tmp 99) (some (.tmp 102)) none⟩,
 ⟨some 104, none, .mov (.tmp 1)⟩,
 ⟨some 105, none, .bad⟩,
 ⟨some 106, none, .call (.func 263) [(.tmp 103), (.tmp 105)]⟩,
 ⟨some 13, none, .mov (.tmp 106)⟩])
 (.seq (.ops [⟨some 107, none, .mov (.tmp 13)⟩,
 ⟨some 108, none, .bin .geq (.tmp 107) (.const (.int .i64 0))⟩])
 (.cond (.tmp 108)
 (.seq (.ops [⟨some 109, none, .mov (.tmp 9)⟩,
 ⟨some 110, none, .mov (.tmp 13)⟩,
 ⟨some 111, none, .bin .add (.tmp 109) (.tmp 110)⟩,
 ⟨some 112, none, .mov (.tmp 8)⟩,
 ⟨some 113, none, .bin .sub (.tmp 111) (.tmp 112)⟩,
 ⟨some 4, none, .mov (.tmp 113)⟩])
 .ret)
 .skip)))
 (.scope (.seq (.ops [⟨some 114, none, .mov (.tmp 7)⟩,
 ⟨some 115, none, .mov (.tmp 8)⟩,
 ⟨some 116, none, .ids (.tmp 114) (.tmp 115)⟩,
 ⟨some 14, none, .mov (.tmp 116)⟩])
 (.seq (.ops [⟨some 117, none, .mov (.tmp 7)⟩,
 ⟨some 118, none, .mov (.tmp 8)⟩,
 ⟨some 119, none, .bin .sub (.tmp 118) (.const (.int .i64 1))⟩,
 ⟨some 120, none, .ids (.tmp 117) (.tmp 119)⟩,
 ⟨some 15, none, .mov (.tmp 120)⟩])
 (.seq (.label 2)
 (.block 5 (.loop (.seq (.seq (.ops [⟨some 121, none, .mov (.tmp 9)⟩,
 ⟨some 122, none, .mov (.tmp 0)⟩,
 ⟨some 123, none, .lns (.tmp 122)⟩,
 ⟨some 124, none, .bin .lss (.tmp 121) (.tmp 123)⟩])
 (.cond (.tmp 124)
 .skip
 (.exit 5)))
 (.seq (.block 6 (.seq (.ops [⟨some 127, none, .mov (.tmp 0)⟩,
 ⟨some 128, none, .mov (.tmp 9)⟩,
 ⟨some 129, none, .ids (.tmp 127) (.tmp 128)⟩,
 ⟨some 130, none, .mov (.tmp 14)⟩,
 ⟨some 131, none, .bin .eql (.tmp 129) (.tmp 130)⟩,
 ⟨some 132, none, .mov (.tmp 131)⟩,
 ⟨some 133, (some (132, true)), .mov (.tmp 0)⟩,
 ⟨some 134, (some (132, true)), .mov (.tmp 9)⟩,
 ⟨some 135, (some (132, true)), .bin .sub (.tmp 134) (.const (.int .i64 1))⟩,
 ⟨some 136, (some (132, true)), .ids (.tmp 133) (.tmp 135)⟩,
 ⟨some 137, (some (132, true)), .mov (.tmp 15)⟩,
 ⟨some 138, (some (132, true)), .bin .eql (.tmp 136) (.tmp 137)⟩,
 ⟨some 139, none, .pick (.tmp 132) (.tmp 138) (.const (.bool false))⟩])
 (.cond (.tmp 139)
 (.seq (.seq (.ops [⟨some 16, none, .mov (.const (.int .i64 2))⟩])
 (.block 7 (.loop (.seq (.seq (.ops [⟨some 140, none, .mov (.tmp 16)⟩,
 ⟨some 141, none, .mov (.tmp 7)⟩,
 ⟨some 142, none, .lns (.tmp 141)⟩,
 ⟨some 143, none, .bin .lss (.tmp 140) (.tmp 142)⟩])
 (.cond (.tmp 143)
 .skip
 (.exit 7)))
 (.seq (.block 8 (.seq (.draw [⟨some 146, none, .mov (.tmp 0)⟩,
 ⟨some 147, none, .mov (.tmp 9)⟩,
 ⟨some 148, none, .mov (.tmp 16)⟩,
 ⟨some 149, none, .bin .sub (.tmp 147) (.tmp 148)⟩,
 ⟨some 150, none, .ids (.tmp 146) (.tmp 149)⟩,
 ⟨some 151, none, .mov (.tmp 7)⟩,
 ⟨some 152, none, .mov (.tmp 8)⟩,
 ⟨some 153, none, .mov (.tmp 16)⟩,
 ⟨some 154, none, .bin .sub (.tmp 152) (.tmp 153)⟩,
 ⟨some 155, none, .ids (.tmp 151) (.tmp 154)⟩,
 ⟨some 156, none, .bin .neq (.tmp 150) (.tmp 155)⟩] [(0, 1), (0, 2), (1, 2), (0, 3), (0, 5), (1, 5), (2, 5), (3, 5), (4, 5), (0, 6), (1, 6), (2, 6), (3, 6), (4, 6), (5, 6), (0, 7), (1, 7), (2, 7), (3, 7), (4, 7), (5, 7), (6, 7), (0, 8), (1, 8), (2, 8), (3, 8), (4, 8), (5, 8), (0, 9), (1, 9), (2, 9), (3, 9), (4, 9)])
 (.cond (.tmp 156)
 (.exit 6)
 .skip)))
 (.ops [⟨some 144, none, .mov (.tmp 16)⟩,
 ⟨some 145, none, .bin .add (.tmp 144) (.const (.int .i64 1))⟩,
 ⟨some 16, none, .mov (.tmp 145)⟩]))))))
 (.seq (.ops [⟨some 157, none, .mov (.tmp 9)⟩,
 ⟨some 158, none, .mov (.tmp 8)⟩,
 ⟨some 159, none, .bin .sub (.tmp 157) (.tmp 158)⟩,
 ⟨some 4, none, .mov (.tmp 159)⟩])
 .ret))
 .skip)))
 (.ops [⟨some 125, none, .mov (.tmp 9)⟩,
 ⟨some 126, none, .bin .add (.tmp 125) (.const (.int .i64 1))⟩,
 ⟨some 9, none, .mov (.tmp 126)⟩]))))))))))
 (.seq (.ops [⟨some 4, none, .mov (.const (.int .i64 (-1)))⟩])
 .ret))))))))))))))))))⟩
theorem ok244 : compF Tryz.prog Tryz.f244 = some c244 := by kernel_rfl
def c245 : CF := ⟨5, [.tmp 2],
 (.seq (.ops [⟨some 2, none, .mov (.const (.bool false))⟩])
 (.seq (.ops [⟨some 3, none, .mov (.tmp 0)⟩,
 ⟨some 4, none, .bin .gtr (.tmp 3) (.const (.int .i64 8))⟩,
 ⟨some 2, none, .mov (.tmp 4)⟩])
 .ret))⟩
theorem ok245 : compF Tryz.prog Tryz.f245 = some c245 := by kernel_rfl
def c246 : CF := ⟨25, [.tmp 2],
 (.seq (.ops [⟨some 2, none, .mov (.const (.int .i64 0))⟩])
 (.seq (.block 0 (.seq (.ops [⟨some 4, none, .mov (.tmp 0)⟩,
 ⟨some 5, none, .bin .lss (.tmp 4) (.const (.int .i32 0))⟩,
 ⟨some 3, none, .mov (.tmp 5)⟩])
 (.cond (.tmp 3)
 (.seq (.ops [⟨some 2, none, .mov (.const (.int .i64 (-1)))⟩])
 .ret)
 (.seq (.ops [⟨some 7, none, .mov (.tmp 0)⟩,
 ⟨some 8, none, .bin .leq (.tmp 7) (.const (.int .i32 127))⟩,
 ⟨some 6, none, .mov (.tmp 8)⟩])
 (.cond (.tmp 6)
 (.seq (.ops [⟨some 2, none, .mov (.const (.int .i64 1))⟩])
 .ret)
 (.seq (.ops [⟨some 10, none, .mov (.tmp 0)⟩,
 ⟨some 11, none, .bin .leq (.tmp 10) (.const (.int .i32 2047))⟩,
 ⟨some 9, none, .mov (.tmp 11)⟩])
 (.cond (.tmp 9)
 (.seq (.ops [⟨some 2, none, .mov (.const (.int .i64 2))⟩])
 .ret)
 (.seq (.ops [⟨some 13, none, .mov (.tmp 0)⟩,
 ⟨some 14, none, .bin .leq (.const (.int .i32 55296)) (.tmp 13)⟩,
 ⟨some 15, none, .mov (.tmp 14)⟩,
 ⟨some 16, (some (15, true)), .mov (.tmp 0)⟩,
 ⟨some 17, (some (15, true)), .bin .leq (.tmp 16) (.const (.int .i32 57343))⟩,
 ⟨some 18, none, .pick (.tmp 15) (.tmp 17) (.const (.bool false))⟩,
 ⟨some 12, none, .mov (.tmp 18)⟩])
 (.cond (.tmp 12)
 (.seq (.ops [⟨some 2, none, .mov (.const (.int .i64 (-1)))⟩])
 .ret)
 (.seq (.ops [⟨some 20, none, .mov (.tmp 0)⟩,
 ⟨some 21, none, .bin .leq (.tmp 20) (.const (.int .i32 65535))⟩,
 ⟨some 19, none, .mov (.tmp 21)⟩])
 (.cond (.tmp 19)
 (.seq (.ops [⟨some 2, none, .mov (.const (.int .i64 3))⟩])
 .ret)
 (.seq (.ops [⟨some 23, none, .mov (.tmp 0)⟩,
 ⟨some 24, none, .bin .leq (.tmp 23) (.const (.int .i32 1114111))⟩,
 ⟨some 22, none, .mov (.tmp 24)⟩])
 (.cond (.tmp 22)
 (.seq (.ops [⟨some 2, none, .mov (.const (.int .i64 4))⟩])
 .ret)
 .skip)))))))))))))
 (.seq (.ops [⟨some 2, none, .mov (.const (.int .i64 (-1)))⟩])
 .ret)))⟩
theorem ok246 : compF Tryz.prog Tryz.f246 = some c246 := by kernel_rfl
def c247 : CF := ⟨37, [.tmp 4, .tmp 5, .tmp 6],
 (.seq (.ops [⟨some 4, none, .mov (.const (.int .i32 0))⟩,
 ⟨some 5, none, .mov (.const (.int .i64 0))⟩,
 ⟨some 6, none, .mov (.const (.int .i64 0))⟩])
 (.seq (.seq (.ops [⟨some 7, none, .mov (.tmp 1)⟩,
 ⟨some 8, none, .bin .lss (.tmp 7) (.const (.int .i64 0))⟩,
 ⟨some 9, none, .mov (.tmp 8)⟩,
 ⟨some 10, (some (9, false)), .mov (.tmp 1)⟩,
 ⟨some 11, (some (9, false)), .mov (.tmp 0)⟩,
 ⟨some 12, (some (9, false)), .lnl (.tmp 11)⟩,
 ⟨some 13, (some (9, false)), .bin .geq (.tmp 10) (.tmp 12)⟩,
 ⟨some 14, none, .pick (.tmp 9) (.const (.bool true)) (.tmp 13)⟩])
 (.cond (.tmp 14)
 (.seq (.ops [⟨some 4, none, .mov (.const (.int .i32 0))⟩,
 ⟨some 5, none, .mov (.const (.int .i64 0))⟩,
 ⟨some 6, none, .mov (.const (.int .i64 7))⟩])
 .ret)
 .skip))
 (.seq (.ops [⟨some 16, none, .mov (.tmp 0)⟩,
 ⟨some 17, none, .mov (.tmp 1)⟩,
 ⟨some 18, none, .sl 1 (.tmp 16) (some (.tmp 17)) none none⟩,
 ⟨some 19, none, .call (.func 264) [(.tmp 18)]⟩,
 ⟨some 15, none, .mov (.tmp 19)⟩,
 ⟨some 20, none, .ext (.tmp 15) 0⟩,
 ⟨some 21, none, .ext (.tmp 15) 1⟩,
 ⟨some 4, none, .mov (.tmp 20)⟩,
 ⟨some 5, none, .mov (.tmp 21)⟩])
 (.seq (.block 0 (.seq (.ops [⟨some 23, none, .mov (.tmp 4)⟩,
 ⟨some 24, none, .bin .neq (.tmp 23) (.const (.int .i32 65533))⟩,
 ⟨some 25, none, .mov (.tmp 24)⟩,
 ⟨some 26, (some (25, false)), .mov (.tmp 5)⟩,
 ⟨some 27, (some (25, false)), .bin .gtr (.tmp 26) (.const (.int .i64 1))⟩,
 ⟨some 28, none, .pick (.tmp 25) (.const (.bool true)) (.tmp 27)⟩,
 ⟨some 22, none, .mov (.tmp 28)⟩])
 (.cond (.tmp 22)
 (.seq (.ops [⟨some 29, none, .mov (.tmp 4)⟩,
 ⟨some 30, none, .mov (.tmp 5)⟩,
 ⟨some 4, none, .mov (.tmp 29)⟩,
 ⟨some 5, none, .mov (.tmp 30)⟩,
 ⟨some 6, none, .mov (.const (.int .i64 0))⟩])
 .ret)
 (.seq (.ops [⟨some 32, none, .mov (.tmp 0)⟩,
 ⟨some 33, none, .mov (.tmp 1)⟩,
 ⟨some 34, none, .sl 1 (.tmp 32) (some (.tmp 33)) none none⟩,
 ⟨some 35, none, .call (.func 265) [(.tmp 34)]⟩,
 ⟨some 36, none, .un .not (.tmp 35)⟩,
 ⟨some 31, none, .mov (.tmp 36)⟩])
 (.cond (.tmp 31)
 (.seq (.ops [⟨some 4, none, .mov (.const (.int .i32 0))⟩,
 ⟨some 5, none, .mov (.const (.int .i64 0))⟩,
 ⟨some 6, none, .mov (.const (.int .i64 320))⟩])
 .ret)
 .skip)))))
 (.seq (.ops [⟨some 4, none, .mov (.const (.int .i32 0))⟩,
 ⟨some 5, none, .mov (.const (.int .i64 0))⟩,
 ⟨some 6, none, .mov (.const (.int .i64 6))⟩])
 .ret)))))⟩
theorem ok247 : compF Tryz.prog Tryz.f247 = some c247 := by kernel_rfl
def c248 : CF := ⟨30, [],
 (.seq (.ops [⟨some 3, none, .mov (.const (.int .i64 0))⟩])
 (.block 0 (.loop (.seq (.seq (.ops [⟨some 7, none, .mov (.tmp 3)⟩,
 ⟨some 8, none, .ld1 (.tmp 1)⟩,
 ⟨some 9, none, .lnl (.tmp 8)⟩,
 ⟨some 10, none, .bin .lss (.tmp 7) (.tmp 9)⟩])
 (.cond (.tmp 10)
 .skip
 (.exit 0)))
 (.block 1 (.seq (.ops [⟨some 12, none, .ld1 (.tmp 1)⟩,
 ⟨some 13, none, .mov (.tmp 3)⟩,
 ⟨some 14, none, .call (.func 247) [(.tmp 12), (.tmp 13)]⟩,
 ⟨some 11, none, .mov (.tmp 14)⟩,
 ⟨some 15, none, .ext (.tmp 11) 0⟩,
 ⟨some 16, none, .ext (.tmp 11) 1⟩,
 ⟨some 17, none, .ext (.tmp 11) 2⟩,
 ⟨some 4, none, .mov (.tmp 15)⟩,
 ⟨some 5, none, .mov (.tmp 16)⟩,
 ⟨some 6, none, .mov (.tmp 17)⟩])
 (.seq (.seq (.ops [⟨some 18, none, .mov (.tmp 6)⟩,
 ⟨some 19, none, .bin .neq (.tmp 18) (.const (.int .i64 0))⟩,
 ⟨some 20, none, .mov (.tmp 19)⟩,
 ⟨some 21, (some (20, false)), .mov (.tmp 0)⟩,
 ⟨some 22, (some (20, false)), .mov (.tmp 3)⟩,
 ⟨some 23, (some (20, false)), .mov (.tmp 4)⟩,
 ⟨some 24, (some (20, false)), .call (.tmp 21) [(.tmp 22), (.tmp 23)]⟩,
 ⟨some 25, (some (20, false)), .un .not (.tmp 24)⟩,
 ⟨some 26, none, .pick (.tmp 20) (.const (.bool true)) (.tmp 25)⟩])
 (.cond (.tmp 26)
 .ret
 .skip))
 (.ops [⟨some 27, none, .mov (.tmp 3)⟩,
 ⟨some 28, none, .mov (.tmp 5)⟩,
 ⟨some 29, none, .bin .add (.tmp 27) (.tmp 28)⟩,
 ⟨some 3, none, .mov (.tmp 29)⟩]))))))))⟩
theorem ok248 : compF Tryz.prog Tryz.f248 = some c248 := by kernel_rfl
def c249 : CF := ⟨17, [.tmp 2],
 (.seq (.ops [⟨some 2, none, .mov (.const (.bool false))⟩])
 (.seq (.block 0 (.seq (.ops [⟨some 4, none, .mov (.tmp 0)⟩,
 ⟨some 5, none, .bin .leq (.const (.int .i32 0)) (.tmp 4)⟩,
 ⟨some 6, none, .mov (.tmp 5)⟩,
 ⟨some 7, (some (6, true)), .mov (.tmp 0)⟩,
 ⟨some 8, (some (6, true)), .bin .lss (.tmp 7) (.const (.int .i32 55296))⟩,
 ⟨some 9, none, .pick (.tmp 6) (.tmp 8) (.const (.bool false))⟩,
 ⟨some 3, none, .mov (.tmp 9)⟩])
 (.cond (.tmp 3)
 (.seq (.ops [⟨some 2, none, .mov (.const (.bool true))⟩])
 .ret)
 (.seq (.ops [⟨some 11, none, .mov (.tmp 0)⟩,
 ⟨some 12, none, .bin .lss (.const (.int .i32 57343)) (.tmp 11)⟩,
 ⟨some 13, none, .mov (.tmp 12)⟩,
 ⟨some 14, (some (13, true)), .mov (.tmp 0)⟩,
 ⟨some 15, (some (13, true)), .bin .leq (.tmp 14) (.const (.int .i32 1114111))⟩,
 ⟨some 16, none, .pick (.tmp 13) (.tmp 15) (.const (.bool false))⟩,
 ⟨some 10, none, .mov (.tmp 16)⟩])
 (.cond (.tmp 10)
 (.seq (.ops [⟨some 2, none, .mov (.const (.bool true))⟩])
 .ret)
 .skip)))))
 (.seq (.ops [⟨some 2, none, .mov (.const (.bool false))⟩])
 .ret)))⟩
theorem ok249 : compF Tryz.prog Tryz.f249 = some c249 := by kernel_rfl
def c250 : CF := ⟨76, [],
 (.seq (.ops [⟨some 10, none, .mov (.tmp 1)⟩,
 ⟨some 8, none, .mov (.tmp 10)⟩])
 (.block 0 (.loop (.block 1 (.seq (.ops [⟨some 11, none, .mov (.tmp 8)⟩,
 ⟨some 12, none, .bin .mul (.const (.int .i64 2)) (.tmp 11)⟩,
 ⟨some 13, none, .bin .add (.tmp 12) (.const (.int .i64 1))⟩,
 ⟨some 9, none, .mov (.tmp 13)⟩])
 (.seq (.seq (.ops [⟨some 14, none, .mov (.tmp 9)⟩,
 ⟨some 15, none, .mov (.tmp 2)⟩,
 ⟨some 16, none, .bin .geq (.tmp 14) (.tmp 15)⟩])
 (.cond (.tmp 16)
 (.exit 0)
 .skip))
 (.seq (.seq (.draw [⟨some 17, none, .mov (.tmp 9)⟩,
 ⟨some 18, none, .bin .add (.tmp 17) (.const (.int .i64 1))⟩,
 ⟨some 19, none, .mov (.tmp 2)⟩,
 ⟨some 20, none, .bin .lss (.tmp 18) (.tmp 19)⟩,
 ⟨some 21, none, .mov (.tmp 20)⟩,
 ⟨some 22, (some (21, true)), .mov (.tmp 0)⟩,
 ⟨some 23, (some (21, true)), .mov (.tmp 3)⟩,
 ⟨some 24, (some (21, true)), .mov (.tmp 9)⟩,
 ⟨some 25, (some (21, true)), .bin .add (.tmp 23) (.tmp 24)⟩,
 ⟨some 26, (some (21, true)), .iad 1 (.tmp 22) (.tmp 25)⟩,
 ⟨some 27, (some (21, true)), .ld1 (.tmp 26)⟩,
 ⟨some 28, (some (21, true)), .mov (.tmp 0)⟩,
 ⟨some 29, (some (21, true)), .mov (.tmp 3)⟩,
 ⟨some 30, (some (21, true)), .mov (.tmp 9)⟩,
 ⟨some 31, (some (21, true)), .bin .add (.tmp 29) (.tmp 30)⟩,
 ⟨some 32, (some (21, true)), .bin .add (.tmp 31) (.const (.int .i64 1))⟩,
 ⟨some 33, (some (21, true)), .iad 1 (.tmp 28) (.tmp 32)⟩,
 ⟨some 34, (some (21, true)), .ld1 (.tmp 33)⟩,
 ⟨some 35, (some (21, true)), .call (.func 215) [(.tmp 27), (.tmp 34)]⟩,
 ⟨some 36, none, .pick (.tmp 21) (.tmp 35) (.const (.bool false))⟩] [(0, 2), (1, 2), (5, 6), (5, 7), (6, 7), (5, 8), (5, 11), (6, 11), (7, 11), (8, 11), (9, 11), (10, 11), (5, 12), (6, 12), (7, 12), (8, 12), (9, 12), (10, 12), (11, 12), (5, 13), (6, 13), (7, 13), (8, 13), (9, 13), (10, 13), (11, 13), (12, 13), (5, 14), (6, 14), (7, 14), (8, 14), (9, 14), (10, 14), (11, 14), (5, 15), (6, 15), (7, 15), (8, 15), (9, 15), (10, 15), (11, 15), (5, 16), (6, 16), (7, 16), (8, 16), (9, 16), (10, 16), (5, 17), (6, 17), (7, 17), (8, 17), (9, 17), (10, 17)])
 (.cond (.tmp 36)
 (.ops [⟨some 37, none, .mov (.tmp 9)⟩,
 ⟨some 38, none, .bin .add (.tmp 37) (.const (.int .i64 1))⟩,
 ⟨some 9, none, .mov (.tmp 38)⟩])
 .skip))
 (.seq (.seq (.draw [⟨some 39, none, .mov (.tmp 0)⟩,
 ⟨some 40, none, .mov (.tmp 3)⟩,
 ⟨some 41, none, .mov (.tmp 8)⟩,
 ⟨some 42, none, .bin .add (.tmp 40) (.tmp 41)⟩,
 ⟨some 43, none, .iad 1 (.tmp 39) (.tmp 42)⟩,
 ⟨some 44, none, .ld1 (.tmp 43)⟩,
 ⟨some 45, none, .mov (.tmp 0)⟩,
 ⟨some 46, none, .mov (.tmp 3)⟩,
 ⟨some 47, none, .mov (.tmp 9)⟩,
 ⟨some 48, none, .bin .add (.tmp 46) (.tmp 47)⟩,
 ⟨some 49, none, .iad 1 (.tmp 45) (.tmp 48)⟩,
 ⟨some 50, none, .ld1 (.tmp 49)⟩,
 ⟨some 51, none, .call (.func 215) [(.tmp 44), (.tmp 50)]⟩,
 ⟨some 52, none, .un .not (.tmp 51)⟩] [(0, 1), (0, 2), (1, 2), (0, 3), (0, 6), (1, 6), (2, 6), (3, 6), (4, 6), (5, 6), (0, 7), (1, 7), (2, 7), (3, 7), (4, 7), (5, 7), (6, 7), (0, 8), (1, 8), (2, 8), (3, 8), (4, 8), (5, 8), (6, 8), (7, 8), (0, 9), (1, 9), (2, 9), (3, 9), (4, 9), (5, 9), (6, 9), (0, 10), (1, 10), (2, 10), (3, 10), (4, 10), (5, 10), (0, 11), (1, 11), (2, 11), (3, 11), (4, 11), (5, 11)])
 (.cond (.tmp 52)
 .ret
 .skip))
 (.seq (.draw [⟨some 53, none, .mov (.tmp 0)⟩,
 ⟨some 54, none, .mov (.tmp 3)⟩,
 ⟨some 55, none, .mov (.tmp 8)⟩,
 ⟨some 56, none, .bin .add (.tmp 54) (.tmp 55)⟩,
 ⟨some 57, none, .mov (.tmp 0)⟩,
 ⟨some 58, none, .mov (.tmp 3)⟩,
 ⟨some 59, none, .mov (.tmp 9)⟩,
 ⟨some 60, none, .bin .add (.tmp 58) (.tmp 59)⟩,
 ⟨some 61, none, .mov (.tmp 0)⟩,
 ⟨some 62, none, .mov (.tmp 3)⟩,
 ⟨some 63, none, .mov (.tmp 9)⟩,
 ⟨some 64, none, .bin .add (.tmp 62) (.tmp 63)⟩,
 ⟨some 65, none, .iad 1 (.tmp 61) (.tmp 64)⟩,
 ⟨some 66, none, .ld1 (.tmp 65)⟩,
 ⟨some 67, none, .mov (.tmp 0)⟩,
 ⟨some 68, none, .mov (.tmp 3)⟩,
 ⟨some 69, none, .mov (.tmp 8)⟩,
 ⟨some 70, none, .bin .add (.tmp 68) (.tmp 69)⟩,
 ⟨some 71, none, .iad 1 (.tmp 67) (.tmp 70)⟩,
 ⟨some 72, none, .ld1 (.tmp 71)⟩,
 ⟨some 73, none, .iad 1 (.tmp 53) (.tmp 56)⟩,
 ⟨none, none, .st 1 (.tmp 73) (.tmp 66)⟩,
 ⟨some 74, none, .iad 1 (.tmp 57) (.tmp 60)⟩,
 ⟨none, none, .st 1 (.tmp 74) (.tmp 72)⟩] [(0, 1), (0, 2), (1, 2), (0, 3), (0, 4), (1, 4), (2, 4), (3, 4), (0, 5), (1, 5), (2, 5), (3, 5), (4, 5), (0, 6), (1, 6), (2, 6), (3, 6), (4, 6), (5, 6), (0, 7), (1, 7), (2, 7), (3, 7), (4, 7), (0, 8), (1, 8), (2, 8), (3, 8), (4, 8), (5, 8), (6, 8), (7, 8), (0, 9), (1, 9), (2, 9), (3, 9), (4, 9), (5, 9), (6, 9), (7, 9), (8, 9), (0, 10), (1, 10), (2, 10), (3, 10), (4, 10), (5, 10), (6, 10), (7, 10), (8, 10), (9, 10), (0, 11), (1, 11), (2, 11), (3, 11), (4, 11), (5, 11), (6, 11), (7, 11), (8, 11), (0, 12), (1, 12), (2, 12), (3, 12), (4, 12), (5, 12), (6, 12), (7, 12), (0, 13), (1, 13), (2, 13), (3, 13), (4, 13), (5, 13), (6, 13), (7, 13), (0, 14), (1, 14), (2, 14), (3, 14), (4, 14), (5, 14), (6, 14), (7, 14), (8, 14), (9, 14), (10, 14), (11, 14), (12, 14), (13, 14), (0, 15), (1, 15), (2, 15), (3, 15), (4, 15), (5, 15), (6, 15), (7, 15), (8, 15), (9, 15), (10, 15), (11, 15), (12, 15), (13, 15), (14, 15), (0, 16), (1, 16), (2, 16), (3, 16), (4, 16), (5, 16), (6, 16), (7, 16), (8, 16), (9, 16), (10, 16), (11, 16), (12, 16), (13, 16), (14, 16), (15, 16), (0, 17), (1, 17), (2, 17), (3, 17), (4, 17), (5, 17), (6, 17), (7, 17), (8, 17), (9, 17), (10, 17), (11, 17), (12, 17), (13, 17), (14, 17), (0, 18), (1, 18), (2, 18), (3, 18), (4, 18), (5, 18), (6, 18), (7, 18), (8, 18), (9, 18), (10, 18), (11, 18), (12, 18), (13, 18), (0, 19), (1, 19), (2, 19), (3, 19), (4, 19), (5, 19), (6, 19), (7, 19), (8, 19), (9, 19), (10, 19), (11, 19), (12, 19), (13, 19), (4, 20), (5, 20), (6, 20), (7, 20), (4, 21), (5, 21), (6, 21), (7, 21)])
 (.ops [⟨some 75, none, .mov (.tmp 9)⟩,
 ⟨some 8, none, .mov (.tmp 75)⟩]))))))))))⟩
theorem ok250 : compF Tryz.prog Tryz.f250 = some c250 := by kernel_rfl
def c251 : CF := ⟨7, [.tmp 2],
 (.seq (.ops [⟨some 2, none, .mov (.const (.int .u64 0))⟩])
 (.seq (.ops [⟨some 3, none, .mov (.tmp 0)⟩,
 ⟨some 4, none, .cvi .u64 (.tmp 3)⟩,
 ⟨some 5, none, .call (.func 173) [(.tmp 4)]⟩,
 ⟨some 6, none, .bin .shl (.const (.int .u64 1)) (.tmp 5)⟩,
 ⟨some 2, none, .mov (.tmp 6)⟩])
 .ret))⟩
theorem ok251 : compF Tryz.prog Tryz.f251 = some c251 := by kernel_rfl
def c252 : CF := ⟨33, [.tmp 2],
 (.seq (.ops [⟨some 2, none, .mov (.const (.int .u64 0))⟩])
 (.seq (.draw [⟨some 3, none, .mov (.tmp 0)⟩,
 ⟨some 4, none, .nilck (.tmp 3)⟩,
 ⟨some 5, none, .ld1 (.tmp 4)⟩,
 ⟨some 6, none, .mov (.tmp 0)⟩,
 ⟨some 7, none, .nilck (.tmp 6)⟩,
 ⟨some 8, none, .ld1 (.tmp 7)⟩,
 ⟨some 9, none, .bin .shl (.tmp 8) (.const (.int .u64 13))⟩,
 ⟨some 10, none, .bin .xor (.tmp 5) (.tmp 9)⟩,
 ⟨some 11, none, .nilck (.tmp 3)⟩,
 ⟨none, none, .st 1 (.tmp 11) (.tmp 10)⟩] [(0, 3), (1, 3), (2, 3), (0, 4), (1, 4), (2, 4), (0, 5), (1, 5), (2, 5), (0, 6), (1, 6), (2, 6)])
 (.seq (.draw [⟨some 12, none, .mov (.tmp 0)⟩,
 ⟨some 13, none, .nilck (.tmp 12)⟩,
 ⟨some 14, none, .ld1 (.tmp 13)⟩,
 ⟨some 15, none, .mov (.tmp 0)⟩,
 ⟨some 16, none, .nilck (.tmp 15)⟩,
 ⟨some 17, none, .ld1 (.tmp 16)⟩,
 ⟨some 18, none, .bin .shr (.tmp 17) (.const (.int .u64 7))⟩,
 ⟨some 19, none, .bin .xor (.tmp 14) (.tmp 18)⟩,
 ⟨some 20, none, .nilck (.tmp 12)⟩,
 ⟨none, none, .st 1 (.tmp 20) (.tmp 19)⟩] [(0, 3), (1, 3), (2, 3), (0, 4), (1, 4), (2, 4), (0, 5), (1, 5), (2, 5), (0, 6), (1, 6), (2, 6)])
 (.seq (.draw [⟨some 21, none, .mov (.tmp 0)⟩,
 ⟨some 22, none, .nilck (.tmp 21)⟩,
 ⟨some 23, none, .ld1 (.tmp 22)⟩,
 ⟨some 24, none, .mov (.tmp 0)⟩,
 ⟨some 25, none, .nilck (.tmp 24)⟩,
 ⟨some 26, none, .ld1 (.tmp 25)⟩,
 ⟨some 27, none, .bin .shl (.tmp 26) (.const (.int .u64 17))⟩,
 ⟨some 28, none, .bin .xor (.tmp 23) (.tmp 27)⟩,
 ⟨some 29, none, .nilck (.tmp 21)⟩,
 ⟨none, none, .st 1 (.tmp 29) (.tmp 28)⟩] [(0, 3), (1, 3), (2, 3), (0, 4), (1, 4), (2, 4), (0, 5), (1, 5), (2, 5), (0, 6), (1, 6), (2, 6)])
 (.seq (.ops [⟨some 30, none, .mov (.tmp 0)⟩,
 ⟨some 31, none, .nilck (.tmp 30)⟩,
 ⟨some 32, none, .ld1 (.tmp 31)⟩,
 ⟨some 2, none, .mov (.tmp 32)⟩])
 .ret)))))⟩
theorem ok252 : compF Tryz.prog Tryz.f252 = some c252 := by kernel_rfl
def c253 : CF := ⟨15, [.tmp 6],
 (.seq (.ops [⟨some 6, none, .mov (.const (.int .i64 0))⟩])
 (.seq (.ops [⟨some 7, none, .mov (.tmp 0)⟩,
 ⟨some 8, none, .mov (.tmp 1)⟩,
 ⟨some 9, none, .bin .sub (.tmp 8) (.const (.int .i64 1))⟩,
 ⟨some 10, none, .mov (.tmp 1)⟩,
 ⟨some 11, none, .mov (.tmp 1)⟩,
 ⟨some 12, none, .bin .add (.tmp 11) (.const (.int .i64 1))⟩,
 ⟨some 13, none, .mov (.tmp 2)⟩,
 ⟨some 14, none, .call (.func 254) [(.tmp 7), (.tmp 9), (.tmp 10), (.tmp 12), (.tmp 13)]⟩,
 ⟨some 6, none, .mov (.tmp 14)⟩])
 .ret))⟩
theorem ok253 : compF Tryz.prog Tryz.f253 = some c253 := by kernel_rfl
def c254 : CF := ⟨36, [.tmp 10],
 (.seq (.ops [⟨some 10, none, .mov (.const (.int .i64 0))⟩])
 (.seq (.ops [⟨some 12, none, .mov (.tmp 0)⟩,
 ⟨some 13, none, .mov (.tmp 1)⟩,
 ⟨some 14, none, .mov (.tmp 2)⟩,
 ⟨some 15, none, .mov (.tmp 4)⟩,
 ⟨some 16, none, .call (.func 266) [(.tmp 12), (.tmp 13), (.tmp 14), (.tmp 15)]⟩,
 ⟨some 11, none, .mov (.tmp 16)⟩,
 ⟨some 17, none, .ext (.tmp 11) 0⟩,
 ⟨some 18, none, .ext (.tmp 11) 1⟩,
 ⟨some 1, none, .mov (.tmp 17)⟩,
 ⟨some 2, none, .mov (.tmp 18)⟩])
 (.seq (.ops [⟨some 20, none, .mov (.tmp 0)⟩,
 ⟨some 21, none, .mov (.tmp 2)⟩,
 ⟨some 22, none, .mov (.tmp 3)⟩,
 ⟨some 23, none, .mov (.tmp 4)⟩,
 ⟨some 24, none, .call (.func 266) [(.tmp 20), (.tmp 21), (.tmp 22), (.tmp 23)]⟩,
 ⟨some 19, none, .mov (.tmp 24)⟩,
 ⟨some 25, none, .ext (.tmp 19) 0⟩,
 ⟨some 26, none, .ext (.tmp 19) 1⟩,
 ⟨some 2, none, .mov (.tmp 25)⟩,
 ⟨some 3, none, .mov (.tmp 26)⟩])
 (.seq (.ops [⟨some 28, none, .mov (.tmp 0)⟩,
 ⟨some 29, none, .mov (.tmp 1)⟩,
 ⟨some 30, none, .mov (.tmp 2)⟩,
 ⟨some 31, none, .mov (.tmp 4)⟩,
 ⟨some 32, none, .call (.func 266) [(.tmp 28), (.tmp 29), (.tmp 30), (.tmp 31)]⟩,
 ⟨some 27, none, .mov (.tmp 32)⟩,
 ⟨some 33, none, .ext (.tmp 27) 0⟩,
 ⟨some 34, none, .ext (.tmp 27) 1⟩,
 ⟨some 1, none, .mov (.tmp 33)⟩,
 ⟨some 2, none, .mov (.tmp 34)⟩])
 (.seq (.ops [⟨some 35, none, .mov (.tmp 2)⟩,
 ⟨some 10, none, .mov (.tmp 35)⟩])
 .ret)))))⟩
theorem ok254 : compF Tryz.prog Tryz.f254 = some c254 := by kernel_rfl
def c255 : CF := ⟨6, [.tmp 2],
 (.seq (.ops [⟨some 2, none, .mov (.const (.bool false))⟩])
 (.seq (.ops [⟨some 3, none, .mov (.tmp 0)⟩,
 ⟨some 4, none, .mov (.tmp 0)⟩,
 ⟨some 5, none, .bin .neq (.tmp 3) (.tmp 4)⟩,
 ⟨some 2, none, .mov (.tmp 5)⟩])
 .ret))⟩
theorem ok255 : compF Tryz.prog Tryz.f255 = some c255 := by kernel_rfl
def c256 : CF := ⟨12, [.cells 4 3],
 (.seq (.ops [⟨some 4, none, .newz [(.slice none 0 0), (.int .i64 0), (.int .i64 0)]⟩])
 (.seq (.seq (.ops [⟨some 5, none, .mov (.tmp 1)⟩,
 ⟨some 6, none, .un .not (.tmp 5)⟩])
 (.cond (.tmp 6)
 (.seq (.ops [⟨some 7, none, .agg [(.slice none 0 0), (.int .i64 0), (.int .i64 0)] [(2, 1, (.const (.int .i64 20)))]⟩,
 ⟨none, none, .st 3 (.tmp 4) (.tmp 7)⟩])
 .ret)
 .skip))
 (.seq (.ops [⟨some 8, none, .mov (.tmp 0)⟩,
 ⟨some 9, none, .agg [(.int .i64 0), (.int .i64 0), (.int .i64 0), (.string ⟨#[]⟩), (.int .i32 0), (.int .i32 0)] [(0, 1, (.const (.int .i64 1))), (2, 1, (.tmp 8))]⟩,
 ⟨some 10, none, .lits [(.int .i64 0), (.int .i64 0), (.int .i64 0), (.string ⟨#[]⟩), (.int .i32 0), (.int .i32 0)] 1 [(0, 6, (.tmp 9))]⟩,
 ⟨some 11, none, .agg [(.slice none 0 0), (.int .i64 0), (.int .i64 0)] [(0, 1, (.tmp 10))]⟩,
 ⟨none, none, .st 3 (.tmp 4) (.tmp 11)⟩])
 .ret)))⟩
theorem ok256 : compF Tryz.prog Tryz.f256 = some c256 := by kernel_rfl
def c257 : CF := ⟨10, [.tmp 2],
 (.seq (.ops [⟨some 2, none, .mov (.const (.int .u64 0))⟩])
 (.seq (.seq (.ops [⟨some 3, none, .mov (.tmp 0)⟩,
 ⟨some 4, none, .bin .lss (.tmp 3) (.const (.int .i64 0))⟩])
 (.cond (.tmp 4)
 (.seq (.ops [⟨some 5, none, .mov (.tmp 0)⟩,
 ⟨some 6, none, .cvi .u64 (.tmp 5)⟩,
 ⟨some 7, none, .un .neg (.tmp 6)⟩,
 ⟨some 2, none, .mov (.tmp 7)⟩])
 .ret)
 .skip))
 (.seq (.ops [⟨some 8, none, .mov (.tmp 0)⟩,
 ⟨some 9, none, .cvi .u64 (.tmp 8)⟩,
 ⟨some 2, none, .mov (.tmp 9)⟩])
 .ret)))⟩
theorem ok257 : compF Tryz.prog Tryz.f257 = some c257 := by kernel_rfl
def c258 : CF := ⟨51, [.tmp 4, .tmp 5],
 (.seq (.ops [⟨some 4, none, .mov (.const (.int .u64 0))⟩,
 ⟨some 5, none, .mov (.const (.int .u64 0))⟩])
 (.seq (.ops [⟨some 14, none, .mov (.tmp 0)⟩,
 ⟨some 15, none, .bin .and (.tmp 14) (.const (.int .u64 4294967295))⟩,
 ⟨some 6, none, .mov (.tmp 15)⟩])
 (.seq (.ops [⟨some 16, none, .mov (.tmp 0)⟩,
 ⟨some 17, none, .bin .shr (.tmp 16) (.const (.int .u64 32))⟩,
 ⟨some 7, none, .mov (.tmp 17)⟩])
 (.seq (.ops [⟨some 18, none, .mov (.tmp 1)⟩,
 ⟨some 19, none, .bin .and (.tmp 18) (.const (.int .u64 4294967295))⟩,
 ⟨some 8, none, .mov (.tmp 19)⟩])
 (.seq (.ops [⟨some 20, none, .mov (.tmp 1)⟩,
 ⟨some 21, none, .bin .shr (.tmp 20) (.const (.int .u64 32))⟩,
 ⟨some 9, none, .mov (.tmp 21)⟩])
 (.seq (.ops [⟨some 22, none, .mov (.tmp 6)⟩,
 ⟨some 23, none, .mov (.tmp 8)⟩,
 ⟨some 24, none, .bin .mul (.tmp 22) (.tmp 23)⟩,
 ⟨some 10, none, .mov (.tmp 24)⟩])
 (.seq (.ops [⟨some 25, none, .mov (.tmp 7)⟩,
 ⟨some 26, none, .mov (.tmp 8)⟩,
 ⟨some 27, none, .bin .mul (.tmp 25) (.tmp 26)⟩,
 ⟨some 28, none, .mov (.tmp 10)⟩,
 ⟨some 29, none, .bin .shr (.tmp 28) (.const (.int .u64 32))⟩,
 ⟨some 30, none, .bin .add (.tmp 27) (.tmp 29)⟩,
 ⟨some 11, none, .mov (.tmp 30)⟩])
 (.seq (.ops [⟨some 31, none, .mov (.tmp 11)⟩,
 ⟨some 32, none, .bin .and (.tmp 31) (.const (.int .u64 4294967295))⟩,
 ⟨some 12, none, .mov (.tmp 32)⟩])
 (.seq (.ops [⟨some 33, none, .mov (.tmp 11)⟩,
 ⟨some 34, none, .bin .shr (.tmp 33) (.const (.int .u64 32))⟩,
 ⟨some 13, none, .mov (.tmp 34)⟩])
 (.seq (.ops [⟨some 35, none, .mov (.tmp 12)⟩,
 ⟨some 36, none, .mov (.tmp 6)⟩,
 ⟨some 37, none, .mov (.tmp 9)⟩,
 ⟨some 38, none, .bin .mul (.tmp 36) (.tmp 37)⟩,
 ⟨some 39, none, .bin .add (.tmp 35) (.tmp 38)⟩,
 ⟨some 12, none, .mov (.tmp 39)⟩])
 (.seq (.ops [⟨some 40, none, .mov (.tmp 7)⟩,
 ⟨some 41, none, .mov (.tmp 9)⟩,
 ⟨some 42, none, .bin .mul (.tmp 40) (.tmp 41)⟩,
 ⟨some 43, none, .mov (.tmp 13)⟩,
 ⟨some 44, none, .bin .add (.tmp 42) (.tmp 43)⟩,
 ⟨some 45, none, .mov (.tmp 12)⟩,
 ⟨some 46, none, .bin .shr (.tmp 45) (.const (.int .u64 32))⟩,
 ⟨some 47, none, .bin .add (.tmp 44) (.tmp 46)⟩,
 ⟨some 4, none, .mov (.tmp 47)⟩])
 (.seq (.ops [⟨some 48, none, .mov (.tmp 0)⟩,
 ⟨some 49, none, .mov (.tmp 1)⟩,
 ⟨some 50, none, .bin .mul (.tmp 48) (.tmp 49)⟩,
 ⟨some 5, none, .mov (.tmp 50)⟩])
 .ret))))))))))))⟩
theorem ok258 : compF Tryz.prog Tryz.f258 = some c258 := by kernel_rfl
def c259 : CF := ⟨22, [.tmp 4, .tmp 5],
 (.seq (.ops [⟨some 4, none, .mov (.const (.slice none 0 0))⟩,
 ⟨some 5, none, .mov (.const (.int .i64 0))⟩])
 (.seq (.seq (.ops [⟨some 7, none, .mov (.tmp 0)⟩,
 ⟨some 8, none, .mov (.tmp 1)⟩,
 ⟨some 9, none, .call (.func 93) [(.tmp 7), (.tmp 8)]⟩,
 ⟨some 6, none, .mov (.tmp 9)⟩])
 (.seq (.ops [⟨some 10, none, .mov (.tmp 6)⟩,
 ⟨some 11, none, .bin .neq (.tmp 10) (.const (.int .i64 0))⟩])
 (.cond (.tmp 11)
 (.seq (.ops [⟨some 12, none, .mov (.tmp 6)⟩,
 ⟨some 4, none, .mov (.const (.slice none 0 0))⟩,
 ⟨some 5, none, .mov (.tmp 12)⟩])
 .ret)
 .skip)))
 (.seq (.ops [⟨some 13, none, .mov (.tmp 0)⟩,
 ⟨some 14, none, .mov (.tmp 1)⟩,
 ⟨some 15, none, .mov (.tmp 0)⟩,
 ⟨some 16, none, .call (.func 81) [(.tmp 15)]⟩,
 ⟨some 17, none, .mov (.tmp 1)⟩,
 ⟨some 18, none, .iad 1 (.tmp 16) (.tmp 17)⟩,
 ⟨some 19, none, .ld1 (.tmp 18)⟩,
 ⟨some 20, none, .sl 6 (.tmp 13) (some (.tmp 14)) (some (.tmp 19)) none⟩,
 ⟨some 21, none, .call (.func 40) [(.tmp 20)]⟩,
 ⟨some 4, none, .mov (.tmp 21)⟩,
 ⟨some 5, none, .mov (.const (.int .i64 0))⟩])
 .ret)))⟩
theorem ok259 : compF Tryz.prog Tryz.f259 = some c259 := by kernel_rfl
def c260 : CF := ⟨117, [.tmp 2, .tmp 3],
 (.seq (.ops [⟨some 2, none, .mov (.const (.int .i32 0))⟩,
 ⟨some 3, none, .mov (.const (.int .i64 0))⟩])
 (.seq (.ops [⟨some 13, none, .mov (.tmp 0)⟩,
 ⟨some 14, none, .lns (.tmp 13)⟩,
 ⟨some 4, none, .mov (.tmp 14)⟩])
 (.seq (.seq (.ops [⟨some 15, none, .mov (.tmp 4)⟩,
 ⟨some 16, none, .bin .lss (.tmp 15) (.const (.int .i64 1))⟩])
 (.cond (.tmp 16)
 (.seq (.ops [⟨some 2, none, .mov (.const (.int .i32 65533))⟩,
 ⟨some 3, none, .mov (.const (.int .i64 0))⟩])
 .ret)
 .skip))
 (.seq (.ops [⟨some 17, none, .mov (.tmp 0)⟩,
 ⟨some 18, none, .ids (.tmp 17) (.const (.int .i64 0))⟩,
 ⟨some 5, none, .mov (.tmp 18)⟩])
 (.seq (.ops [⟨some 19, none, .mov (.tmp 5)⟩,
 ⟨some 20, none, .iaa 256 1 (.global 4) (.tmp 19)⟩,
 ⟨some 21, none, .ld1 (.tmp 20)⟩,
 ⟨some 6, none, .mov (.tmp 21)⟩])
 (.seq (.seq (.ops [⟨some 22, none, .mov (.tmp 6)⟩,
 ⟨some 23, none, .bin .geq (.tmp 22) (.const (.int .u8 240))⟩])
 (.cond (.tmp 23)
 (.seq (.ops [⟨some 24, none, .mov (.tmp 6)⟩,
 ⟨some 25, none, .cvi .i32 (.tmp 24)⟩,
 ⟨some 26, none, .bin .shl (.tmp 25) (.const (.int .u64 31))⟩,
 ⟨some 27, none, .bin .shr (.tmp 26) (.const (.int .u64 31))⟩,
 ⟨some 7, none, .mov (.tmp 27)⟩])
 (.seq (.ops [⟨some 28, none, .mov (.tmp 0)⟩,
 ⟨some 29, none, .ids (.tmp 28) (.const (.int .i64 0))⟩,
 ⟨some 30, none, .cvi .i32 (.tmp 29)⟩,
 ⟨some 31, none, .mov (.tmp 7)⟩,
 ⟨some 32, none, .bin .andNot (.tmp 30) (.tmp 31)⟩,
 ⟨some 33, none, .mov (.tmp 7)⟩,
 ⟨some 34, none, .bin .and (.const (.int .i32 65533)) (.tmp 33)⟩,
 ⟨some 35, none, .bin .or (.tmp 32) (.tmp 34)⟩,
 ⟨some 2, none, .mov (.tmp 35)⟩,
 ⟨some 3, none, .mov (.const (.int .i64 1))⟩])
 .ret))
 .skip))
 (.seq (.ops [⟨some 36, none, .mov (.tmp 6)⟩,
 ⟨some 37, none, .bin .and (.tmp 36) (.const (.int .u8 7))⟩,
 ⟨some 38, none, .cvi .i64 (.tmp 37)⟩,
 ⟨some 8, none, .mov (.tmp 38)⟩])
 (.seq (.ops [⟨some 39, none, .mov (.tmp 6)⟩,
 ⟨some 40, none, .bin .shr (.tmp 39) (.const (.int .u64 4))⟩,
 ⟨some 41, none, .iaa 16 2 (.global 5) (.tmp 40)⟩,
 ⟨some 42, none, .ld 2 (.tmp 41)⟩,
 ⟨some 9, none, .newz [(.int .u8 0), (.int .u8 0)]⟩,
 ⟨none, none, .st 2 (.tmp 9) (.tmp 42)⟩])
 (.seq (.seq (.ops [⟨some 43, none, .mov (.tmp 4)⟩,
 ⟨some 44, none, .mov (.tmp 8)⟩,
 ⟨some 45, none, .bin .lss (.tmp 43) (.tmp 44)⟩])
 (.cond (.tmp 45)
 (.seq (.ops [⟨some 2, none, .mov (.const (.int .i32 65533))⟩,
 ⟨some 3, none, .mov (.const (.int .i64 1))⟩])
 .ret)
 .skip))
 (.seq (.ops [⟨some 46, none, .mov (.tmp 0)⟩,
 ⟨some 47, none, .ids (.tmp 46) (.const (.int .i64 1))⟩,
 ⟨some 10, none, .mov (.tmp 47)⟩])
 (.seq (.seq (.ops [⟨some 48, none, .mov (.tmp 10)⟩,
 ⟨some 49, none, .fad (.tmp 9) 0⟩,
 ⟨some 50, none, .ld1 (.tmp 49)⟩,
 ⟨some 51, none, .bin .lss (.tmp 48) (.tmp 50)⟩,
 ⟨some 52, none, .mov (.tmp 51)⟩,
 ⟨some 53, (some (52, false)), .fad (.tmp 9) 1⟩,
 ⟨some 54, (some (52, false)), .ld1 (.tmp 53)⟩,
 ⟨some 55, (some (52, false)), .mov (.tmp 10)⟩,
 ⟨some 56, (some (52, false)), .bin .lss (.tmp 54) (.tmp 55)⟩,
 ⟨some 57, none, .pick (.tmp 52) (.const (.bool true)) (.tmp 56)⟩])
 (.cond (.tmp 57)
 (.seq (.ops [⟨some 2, none, .mov (.const (.int .i32 65533))⟩,
 ⟨some 3, none, .mov (.const (.int .i64 1))⟩])
 .ret)
 .skip))
 (.seq (.seq (.ops [⟨some 58, none, .mov (.tmp 8)⟩,
 ⟨some 59, none, .bin .leq (.tmp 58) (.const (.int .i64 2))⟩])
 (.cond (.tmp 59)
 (.seq (.ops [⟨some 60, none, .mov (.tmp 5)⟩,
 ⟨some 61, none, .bin .and (.tmp 60) (.const (.int .u8 31))⟩,
 ⟨some 62, none, .cvi .i32 (.tmp 61)⟩,
 ⟨some 63, none, .bin .shl (.tmp 62) (.const (.int .u64 6))⟩,
 ⟨some 64, none, .mov (.tmp 10)⟩,
 ⟨some 65, none, .bin .and (.tmp 64) (.const (.int .u8 63))⟩,
 ⟨some 66, none, .cvi .i32 (.tmp 65)⟩,
 ⟨some 67, none, .bin .or (.tmp 63) (.tmp 66)⟩,
 ⟨some 2, none, .mov (.tmp 67)⟩,
 ⟨some 3, none, .mov (.const (.int .i64 2))⟩])
 .ret)
 .skip))
 (.seq (.ops [⟨some 68, none, .mov (.tmp 0)⟩,
 ⟨some 69, none, .ids (.tmp 68) (.const (.int .i64 2))⟩,
 ⟨some 11, none, .mov (.tmp 69)⟩])
 (.seq (.seq (.ops [⟨some 70, none, .mov (.tmp 11)⟩,
 ⟨some 71, none, .bin .lss (.tmp 70) (.const (.int .u8 128))⟩,
 ⟨some 72, none, .mov (.tmp 71)⟩,
 ⟨some 73, (some (72, false)), .mov (.tmp 11)⟩,
 ⟨some 74, (some (72, false)), .bin .lss (.const (.int .u8 191)) (.tmp 73)⟩,
 ⟨some 75, none, .pick (.tmp 72) (.const (.bool true)) (.tmp 74)⟩])
 (.cond (.tmp 75)
 (.seq (.ops [⟨some 2, none, .mov (.const (.int .i32 65533))⟩,
 ⟨some 3, none, .mov (.const (.int .i64 1))⟩])
 .ret)
 .skip))
 (.seq (.seq (.ops [⟨some 76, none, .mov (.tmp 8)⟩,
 ⟨some 77, none, .bin .leq (.tmp 76) (.const (.int .i64 3))⟩])
 (.cond (.tmp 77)
 (.seq (.ops [⟨some 78, none, .mov (.tmp 5)⟩,
 ⟨some 79, none, .bin .and (.tmp 78) (.const (.int .u8 15))⟩,
 ⟨some 80, none, .cvi .i32 (.tmp 79)⟩,
 ⟨some 81, none, .bin .shl (.tmp 80) (.const (.int .u64 12))⟩,
 ⟨some 82, none, .mov (.tmp 10)⟩,
 ⟨some 83, none, .bin .and (.tmp 82) (.const (.int .u8 63))⟩,
 ⟨some 84, none, .cvi .i32 (.tmp 83)⟩,
 ⟨some 85, none, .bin .shl (.tmp 84) (.const (.int .u64 6))⟩,
 ⟨some 86, none, .bin .or (.tmp 81) (.tmp 85)⟩,
 ⟨some 87, none, .mov (.tmp 11)⟩,
 ⟨some 88, none, .bin .and (.tmp 87) (.const (.int .u8 63))⟩,
 ⟨some 89, none, .cvi .i32 (.tmp 88)⟩,
 ⟨some 90, none, .bin .or (.tmp 86) (.tmp 89)⟩,
 ⟨some 2, none, .mov (.tmp 90)⟩,
 ⟨some 3, none, .mov (.const (.int .i64 3))⟩])
 .ret)
 .skip))
 (.seq (.ops [⟨some 91, none, .mov (.tmp 0)⟩,
 ⟨some 92, none, .ids (.tmp 91) (.const (.int .i64 3))⟩,
 ⟨some 12, none, .mov (.tmp 92)⟩])
 (.seq (.seq (.ops [⟨some 93, none, .mov (.tmp 12)⟩,
 ⟨some 94, none, .bin .lss (.tmp 93) (.const (.int .u8 128))⟩,
 ⟨some 95, none, .mov (.tmp 94)⟩,
 ⟨some 96, (some (95, false)), .mov (.tmp 12)⟩,
 ⟨some 97, (some (95, false)), .bin .lss (.const (.int .u8 191)) (.tmp 96)⟩,
 ⟨some 98, none, .pick (.tmp 95) (.const (.bool true)) (.tmp 97)⟩])
 (.cond (.tmp 98)
 (.seq (.ops [⟨some 2, none, .mov (.const (.int .i32 65533))⟩,
 ⟨some 3, none, .mov (.const (.int .i64 1))⟩])
 .ret)
 .skip))
 (.seq (.ops [⟨some 99, none, .mov (.tmp 5)⟩,
 ⟨some 100, none, .bin .and (.tmp 99) (.const (.int .u8 7))⟩,
 ⟨some 101, none, .cvi .i32 (.tmp 100)⟩,
 ⟨some 102, none, .bin .shl (.tmp 101) (.const (.int .u64 18))⟩,
 ⟨some 103, none, .mov (.tmp 10)⟩,
 ⟨some 104, none, .bin .and (.tmp 103) (.const (.int .u8 63))⟩,
 ⟨some 105, none, .cvi .i32 (.tmp 104)⟩,
 ⟨some 106, none, .bin .shl (.tmp 105) (.const (.int .u64 12))⟩,
 ⟨some 107, none, .bin .or (.tmp 102) (.tmp 106)⟩,
 ⟨some 108, none, .mov (.tmp 11)⟩,
 ⟨some 109, none, .bin .and (.tmp 108) (.const (.int .u8 63))⟩,
 ⟨some 110, none, .cvi .i32 (.tmp 109)⟩,
 ⟨some 111, none, .bin .shl (.tmp 110) (.const (.int .u64 6))⟩,
 ⟨some 112, none, .bin .or (.tmp 107) (.tmp 111)⟩,
 ⟨some 113, none, .mov (.tmp 12)⟩,
 ⟨some 114, none, .bin .and (.tmp 113) (.const (.int .u8 63))⟩,
 ⟨some 115, none, .cvi .i32 (.tmp 114)⟩,
 ⟨some 116, none, .bin .or (.tmp 112) (.tmp 115)⟩,
 ⟨some 2, none, .mov (.tmp 116)⟩,
 ⟨some 3, none, .mov (.const (.int .i64 4))⟩])
 .ret))))))))))))))))))⟩
theorem ok260 : compF Tryz.prog Tryz.f260 = some c260 := by kernel_rfl
def c261 : CF := ⟨8, [.tmp 4],
 (.seq (.ops [⟨some 4, none, .mov (.const (.int .i64 0))⟩])
 (.seq (.ops [⟨some 5, none, .mov (.tmp 0)⟩,
 ⟨some 6, none, .mov (.tmp 1)⟩,
 ⟨some 7, none, .call (.func 267) [(.tmp 5), (.tmp 6)]⟩,
 ⟨some 4, none, .mov (.tmp 7)⟩])
 .ret))⟩
theorem ok261 : compF Tryz.prog Tryz.f261 = some c261 := by kernel_rfl
def c262 : CF := ⟨6, [.tmp 2],
 (.seq (.ops [⟨some 2, none, .mov (.const (.int .i64 0))⟩])
 (.seq (.ops [⟨some 3, none, .mov (.tmp 0)⟩,
 ⟨some 4, none, .bin .add (.tmp 3) (.const (.int .i64 16))⟩,
 ⟨some 5, none, .bin .quo (.tmp 4) (.const (.int .i64 8))⟩,
 ⟨some 2, none, .mov (.tmp 5)⟩])
 .ret))⟩
theorem ok262 : compF Tryz.prog Tryz.f262 = some c262 := by kernel_rfl
def c264 : CF := ⟨22, [.tmp 2, .tmp 3],
 (.seq (.ops [⟨some 2, none, .mov (.const (.int .i32 0))⟩,
 ⟨some 3, none, .mov (.const (.int .i64 0))⟩])
 (.seq (.seq (.ops [⟨some 6, none, .mov (.tmp 0)⟩,
 ⟨some 7, none, .lnl (.tmp 6)⟩,
 ⟨some 8, none, .mov (.const (.int .i64 0))⟩])
 (.block 0 (.loop (.seq (.ops [⟨some 9, none, .bin .lss (.tmp 8) (.tmp 7)⟩])
 (.seq (.cond (.tmp 9)
 .skip
 (.exit 0))
 (.seq (.block 1 (.seq (.ops [⟨some 10, none, .iad 1 (.tmp 6) (.tmp 8)⟩,
 ⟨some 11, none, .ld1 (.tmp 10)⟩,
 ⟨some 5, none, .mov (.tmp 11)⟩])
 (.seq (.seq (.ops [⟨some 12, none, .mov (.tmp 5)⟩,
 ⟨some 13, none, .bin .lss (.tmp 12) (.const (.int .u8 128))⟩])
 (.cond (.tmp 13)
 (.seq (.ops [⟨some 14, none, .mov (.tmp 5)⟩,
 ⟨some 15, none, .cvi .i32 (.tmp 14)⟩,
 ⟨some 2, none, .mov (.tmp 15)⟩,
 ⟨some 3, none, .mov (.const (.int .i64 1))⟩])
 .ret)
 .skip))
 (.exit 0))))
 (.ops [⟨some 16, none, .bin .add (.tmp 8) (.const (.int .i64 1))⟩,
 ⟨some 8, none, .mov (.tmp 16)⟩])))))))
 (.seq (.ops [⟨some 18, none, .mov (.tmp 0)⟩,
 ⟨some 19, none, .call (.func 268) [(.tmp 18)]⟩,
 ⟨some 17, none, .mov (.tmp 19)⟩,
 ⟨some 20, none, .ext (.tmp 17) 0⟩,
 ⟨some 21, none, .ext (.tmp 17) 1⟩,
 ⟨some 2, none, .mov (.tmp 20)⟩,
 ⟨some 3, none, .mov (.tmp 21)⟩])
 .ret)))⟩
theorem ok264 : compF Tryz.prog Tryz.f264 = some c264 := by kernel_rfl
def c265 : CF := ⟨56, [.tmp 2],
 (.seq (.ops [⟨some 2, none, .mov (.const (.bool false))⟩])
 (.seq (.ops [⟨some 6, none, .mov (.tmp 0)⟩,
 ⟨some 7, none, .lnl (.tmp 6)⟩,
 ⟨some 3, none, .mov (.tmp 7)⟩])
 (.seq (.seq (.ops [⟨some 8, none, .mov (.tmp 3)⟩,
 ⟨some 9, none, .bin .eql (.tmp 8) (.const (.int .i64 0))⟩])
 (.cond (.tmp 9)
 (.seq (.ops [⟨some 2, none, .mov (.const (.bool false))⟩])
 .ret)
 .skip))
 (.seq (.ops [⟨some 10, none, .mov (.tmp 0)⟩,
 ⟨some 11, none, .iad 1 (.tmp 10) (.const (.int .i64 0))⟩,
 ⟨some 12, none, .ld1 (.tmp 11)⟩,
 ⟨some 13, none, .iaa 256 1 (.global 4) (.tmp 12)⟩,
 ⟨some 14, none, .ld1 (.tmp 13)⟩,
 ⟨some 4, none, .mov (.tmp 14)⟩])
 (.seq (.seq (.ops [⟨some 15, none, .mov (.tmp 3)⟩,
 ⟨some 16, none, .mov (.tmp 4)⟩,
 ⟨some 17, none, .bin .and (.tmp 16) (.const (.int .u8 7))⟩,
 ⟨some 18, none, .cvi .i64 (.tmp 17)⟩,
 ⟨some 19, none, .bin .geq (.tmp 15) (.tmp 18)⟩])
 (.cond (.tmp 19)
 (.seq (.ops [⟨some 2, none, .mov (.const (.bool true))⟩])
 .ret)
 .skip))
 (.seq (.ops [⟨some 20, none, .mov (.tmp 4)⟩,
 ⟨some 21, none, .bin .shr (.tmp 20) (.const (.int .u64 4))⟩,
 ⟨some 22, none, .iaa 16 2 (.global 5) (.tmp 21)⟩,
 ⟨some 23, none, .ld 2 (.tmp 22)⟩,
 ⟨some 5, none, .newz [(.int .u8 0), (.int .u8 0)]⟩,
 ⟨none, none, .st 2 (.tmp 5) (.tmp 23)⟩])
 (.seq (.seq (.draw [⟨some 24, none, .mov (.tmp 3)⟩,
 ⟨some 25, none, .bin .gtr (.tmp 24) (.const (.int .i64 1))⟩,
 ⟨some 26, none, .mov (.tmp 25)⟩,
 ⟨some 27, (some (26, true)), .mov (.tmp 0)⟩,
 ⟨some 28, (some (26, true)), .iad 1 (.tmp 27) (.const (.int .i64 1))⟩,
 ⟨some 29, (some (26, true)), .ld1 (.tmp 28)⟩,
 ⟨some 30, (some (26, true)), .fad (.tmp 5) 0⟩,
 ⟨some 31, (some (26, true)), .ld1 (.tmp 30)⟩,
 ⟨some 32, (some (26, true)), .bin .lss (.tmp 29) (.tmp 31)⟩,
 ⟨some 33, (some (26, true)), .mov (.tmp 32)⟩,
 ⟨some 34, (some (33, false)), .fad (.tmp 5) 1⟩,
 ⟨some 35, (some (33, false)), .ld1 (.tmp 34)⟩,
 ⟨some 36, (some (33, false)), .mov (.tmp 0)⟩,
 ⟨some 37, (some (33, false)), .iad 1 (.tmp 36) (.const (.int .i64 1))⟩,
 ⟨some 38, (some (33, false)), .ld1 (.tmp 37)⟩,
 ⟨some 39, (some (33, false)), .bin .lss (.tmp 35) (.tmp 38)⟩,
 ⟨some 40, (some (26, true)), .pick (.tmp 33) (.const (.bool true)) (.tmp 39)⟩,
 ⟨some 41, none, .pick (.tmp 26) (.tmp 40) (.const (.bool false))⟩] [(3, 6), (4, 6), (5, 6), (3, 7), (4, 7), (5, 7), (10, 12), (11, 12), (10, 13), (11, 13), (10, 14), (11, 14)])
 (.cond (.tmp 41)
 (.seq (.ops [⟨some 2, none, .mov (.const (.bool true))⟩])
 .ret)
 (.seq (.ops [⟨some 42, none, .mov (.tmp 3)⟩,
 ⟨some 43, none, .bin .gtr (.tmp 42) (.const (.int .i64 2))⟩,
 ⟨some 44, none, .mov (.tmp 43)⟩,
 ⟨some 45, (some (44, true)), .mov (.tmp 0)⟩,
 ⟨some 46, (some (44, true)), .iad 1 (.tmp 45) (.const (.int .i64 2))⟩,
 ⟨some 47, (some (44, true)), .ld1 (.tmp 46)⟩,
 ⟨some 48, (some (44, true)), .bin .lss (.tmp 47) (.const (.int .u8 128))⟩,
 ⟨some 49, (some (44, true)), .mov (.tmp 48)⟩,
 ⟨some 50, (some (49, false)), .mov (.tmp 0)⟩,
 ⟨some 51, (some (49, false)), .iad 1 (.tmp 50) (.const (.int .i64 2))⟩,
 ⟨some 52, (some (49, false)), .ld1 (.tmp 51)⟩,
 ⟨some 53, (some (49, false)), .bin .lss (.const (.int .u8 191)) (.tmp 52)⟩,
 ⟨some 54, (some (44, true)), .pick (.tmp 49) (.const (.bool true)) (.tmp 53)⟩,
 ⟨some 55, none, .pick (.tmp 44) (.tmp 54) (.const (.bool false))⟩])
 (.cond (.tmp 55)
 (.seq (.ops [⟨some 2, none, .mov (.const (.bool true))⟩])
 .ret)
 .skip))))
 (.seq (.ops [⟨some 2, none, .mov (.const (.bool false))⟩])
 .ret))))))))⟩
theorem ok265 : compF Tryz.prog Tryz.f265 = some c265 := by kernel_rfl
def c266 : CF := ⟨28, [.tmp 8, .tmp 9],
 (.seq (.ops [⟨some 8, none, .mov (.const (.int .i64 0))⟩,
 ⟨some 9, none, .mov (.const (.int .i64 0))⟩])
 (.seq (.seq (.draw [⟨some 10, none, .mov (.tmp 0)⟩,
 ⟨some 11, none, .mov (.tmp 2)⟩,
 ⟨some 12, none, .iad 1 (.tmp 10) (.tmp 11)⟩,
 ⟨some 13, none, .ld1 (.tmp 12)⟩,
 ⟨some 14, none, .mov (.tmp 0)⟩,
 ⟨some 15, none, .mov (.tmp 1)⟩,
 ⟨some 16, none, .iad 1 (.tmp 14) (.tmp 15)⟩,
 ⟨some 17, none, .ld1 (.tmp 16)⟩,
 ⟨some 18, none, .call (.func 215) [(.tmp 13), (.tmp 17)]⟩] [(0, 1), (0, 4), (1, 4), (2, 4), (3, 4), (0, 5), (1, 5), (2, 5), (3, 5), (4, 5), (0, 6), (1, 6), (2, 6), (3, 6), (0, 7), (1, 7), (2, 7), (3, 7)])
 (.cond (.tmp 18)
 (.seq (.ops [⟨some 19, none, .mov (.tmp 3)⟩,
 ⟨some 20, none, .nilck (.tmp 19)⟩,
 ⟨some 21, none, .ld1 (.tmp 20)⟩,
 ⟨some 22, none, .bin .add (.tmp 21) (.const (.int .i64 1))⟩,
 ⟨some 23, none, .nilck (.tmp 19)⟩,
 ⟨none, none, .st 1 (.tmp 23) (.tmp 22)⟩])
 (.seq (.ops [⟨some 24, none, .mov (.tmp 2)⟩,
 ⟨some 25, none, .mov (.tmp 1)⟩,
 ⟨some 8, none, .mov (.tmp 24)⟩,
 ⟨some 9, none, .mov (.tmp 25)⟩])
 .ret))
 .skip))
 (.seq (.ops [⟨some 26, none, .mov (.tmp 1)⟩,
 ⟨some 27, none, .mov (.tmp 2)⟩,
 ⟨some 8, none, .mov (.tmp 26)⟩,
 ⟨some 9, none, .mov (.tmp 27)⟩])
 .ret)))⟩
theorem ok266 : compF Tryz.prog Tryz.f266 = some c266 := by kernel_rfl
def c267 : CF := ⟨8, [.tmp 4],
 (.seq (.ops [⟨some 4, none, .mov (.const (.int .i64 0))⟩])
 (.seq (.ops [⟨some 5, none, .mov (.tmp 0)⟩,
 ⟨some 6, none, .mov (.tmp 1)⟩,
 ⟨some 7, none, .call (.func 269) [(.tmp 5), (.tmp 6)]⟩,
 ⟨some 4, none, .mov (.tmp 7)⟩])
 .ret))⟩
theorem ok267 : compF Tryz.prog Tryz.f267 = some c267 := by kernel_rfl
def c268 : CF := ⟨122, [.tmp 2, .tmp 3],
 (.seq (.ops [⟨some 2, none, .mov (.const (.int .i32 0))⟩,
 ⟨some 3, none, .mov (.const (.int .i64 0))⟩])
 (.seq (.ops [⟨some 13, none, .mov (.tmp 0)⟩,
 ⟨some 14, none, .lnl (.tmp 13)⟩,
 ⟨some 4, none, .mov (.tmp 14)⟩])
 (.seq (.seq (.ops [⟨some 15, none, .mov (.tmp 4)⟩,
 ⟨some 16, none, .bin .lss (.tmp 15) (.const (.int .i64 1))⟩])
 (.cond (.tmp 16)
 (.seq (.ops [⟨some 2, none, .mov (.const (.int .i32 65533))⟩,
 ⟨some 3, none, .mov (.const (.int .i64 0))⟩])
 .ret)
 .skip))
 (.seq (.ops [⟨some 17, none, .mov (.tmp 0)⟩,
 ⟨some 18, none, .iad 1 (.tmp 17) (.const (.int .i64 0))⟩,
 ⟨some 19, none, .ld1 (.tmp 18)⟩,
 ⟨some 5, none, .mov (.tmp 19)⟩])
 (.seq (.ops [⟨some 20, none, .mov (.tmp 5)⟩,
 ⟨some 21, none, .iaa 256 1 (.global 4) (.tmp 20)⟩,
 ⟨some 22, none, .ld1 (.tmp 21)⟩,
 ⟨some 6, none, .mov (.tmp 22)⟩])
 (.seq (.seq (.ops [⟨some 23, none, .mov (.tmp 6)⟩,
 ⟨some 24, none, .bin .geq (.tmp 23) (.const (.int .u8 240))⟩])
 (.cond (.tmp 24)
 (.seq (.ops [⟨some 25, none, .mov (.tmp 6)⟩,
 ⟨some 26, none, .cvi .i32 (.tmp 25)⟩,
 ⟨some 27, none, .bin .shl (.tmp 26) (.const (.int .u64 31))⟩,
 ⟨some 28, none, .bin .shr (.tmp 27) (.const (.int .u64 31))⟩,
 ⟨some 7, none, .mov (.tmp 28)⟩])
 (.seq (.ops [⟨some 29, none, .mov (.tmp 0)⟩,
 ⟨some 30, none, .iad 1 (.tmp 29) (.const (.int .i64 0))⟩,
 ⟨some 31, none, .ld1 (.tmp 30)⟩,
 ⟨some 32, none, .cvi .i32 (.tmp 31)⟩,
 ⟨some 33, none, .mov (.tmp 7)⟩,
 ⟨some 34, none, .bin .andNot (.tmp 32) (.tmp 33)⟩,
 ⟨some 35, none, .mov (.tmp 7)⟩,
 ⟨some 36, none, .bin .and (.const (.int .i32 65533)) (.tmp 35)⟩,
 ⟨some 37, none, .bin .or (.tmp 34) (.tmp 36)⟩,
 ⟨some 2, none, .mov (.tmp 37)⟩,
 ⟨some 3, none, .mov (.const (.int .i64 1))⟩])
 .ret))
 .skip))
 (.seq (.ops [⟨some 38, none, .mov (.tmp 6)⟩,
 ⟨some 39, none, .bin .and (.tmp 38) (.const (.int .u8 7))⟩,
 ⟨some 40, none, .cvi .i64 (.tmp 39)⟩,
 ⟨some 8, none, .mov (.tmp 40)⟩])
 (.seq (.ops [⟨some 41, none, .mov (.tmp 6)⟩,
 ⟨some 42, none, .bin .shr (.tmp 41) (.const (.int .u64 4))⟩,
 ⟨some 43, none, .iaa 16 2 (.global 5) (.tmp 42)⟩,
 ⟨some 44, none, .ld 2 (.tmp 43)⟩,
 ⟨some 9, none, .newz [(.int .u8 0), (.int .u8 0)]⟩,
 ⟨none, none, .st 2 (.tmp 9) (.tmp 44)⟩])
 (.seq (.seq (.ops [⟨some 45, none, .mov (.tmp 4)⟩,
 ⟨some 46, none, .mov (.tmp 8)⟩,
 ⟨some 47, none, .bin .lss (.tmp 45) (.tmp 46)⟩])
 (.cond (.tmp 47)
 (.seq (.ops [⟨some 2, none, .mov (.const (.int .i32 65533))⟩,
 ⟨some 3, none, .mov (.const (.int .i64 1))⟩])
 .ret)
 .skip))
 (.seq (.ops [⟨some 48, none, .mov (.tmp 0)⟩,
 ⟨some 49, none, .iad 1 (.tmp 48) (.const (.int .i64 1))⟩,
 ⟨some 50, none, .ld1 (.tmp 49)⟩,
 ⟨some 10, none, .mov (.tmp 50)⟩])
 (.seq (.seq (.ops [⟨some 51, none, .mov (.tmp 10)⟩,
 ⟨some 52, none, .fad (.tmp 9) 0⟩,
 ⟨some 53, none, .ld1 (.tmp 52)⟩,
 ⟨some 54, none, .bin .lss (.tmp 51) (.tmp 53)⟩,
 ⟨some 55, none, .mov (.tmp 54)⟩,
 ⟨some 56, (some (55, false)), .fad (.tmp 9) 1⟩,
 ⟨some 57, (some (55, false)), .ld1 (.tmp 56)⟩,
 ⟨some 58, (some (55, false)), .mov (.tmp 10)⟩,
 ⟨some 59, (some (55, false)), .bin .lss (.tmp 57) (.tmp 58)⟩,
 ⟨some 60, none, .pick (.tmp 55) (.const (.bool true)) (.tmp 59)⟩])
 (.cond (.tmp 60)
 (.seq (.ops [⟨some 2, none, .mov (.const (.int .i32 65533))⟩,
 ⟨some 3, none, .mov (.const (.int .i64 1))⟩])
 .ret)
 .skip))
 (.seq (.seq (.ops [⟨some 61, none, .mov (.tmp 8)⟩,
 ⟨some 62, none, .bin .leq (.tmp 61) (.const (.int .i64 2))⟩])
 (.cond (.tmp 62)
 (.seq (.ops [⟨some 63, none, .mov (.tmp 5)⟩,
 ⟨some 64, none, .bin .and (.tmp 63) (.const (.int .u8 31))⟩,
 ⟨some 65, none, .cvi .i32 (.tmp 64)⟩,
 ⟨some 66, none, .bin .shl (.tmp 65) (.const (.int .u64 6))⟩,
 ⟨some 67, none, .mov (.tmp 10)⟩,
 ⟨some 68, none, .bin .and (.tmp 67) (.const (.int .u8 63))⟩,
 ⟨some 69, none, .cvi .i32 (.tmp 68)⟩,
 ⟨some 70, none, .bin .or (.tmp 66) (.tmp 69)⟩,
 ⟨some 2, none, .mov (.tmp 70)⟩,
 ⟨some 3, none, .mov (.const (.int .i64 2))⟩])
 .ret)
 .skip))
 (.seq (.ops [⟨some 71, none, .mov (.tmp 0)⟩,
 ⟨some 72, none, .iad 1 (.tmp 71) (.const (.int .i64 2))⟩,
 ⟨some 73, none, .ld1 (.tmp 72)⟩,
 ⟨some 11, none, .mov (.tmp 73)⟩])
 (.seq (.seq (.ops [⟨some 74, none, .mov (.tmp 11)⟩,
 ⟨some 75, none, .bin .lss (.tmp 74) (.const (.int .u8 128))⟩,
 ⟨some 76, none, .mov (.tmp 75)⟩,
 ⟨some 77, (some (76, false)), .mov (.tmp 11)⟩,
 ⟨some 78, (some (76, false)), .bin .lss (.const (.int .u8 191)) (.tmp 77)⟩,
 ⟨some 79, none, .pick (.tmp 76) (.const (.bool true)) (.tmp 78)⟩])
 (.cond (.tmp 79)
 (.seq (.ops [⟨some 2, none, .mov (.const (.int .i32 65533))⟩,
 ⟨some 3, none, .mov (.const (.int .i64 1))⟩])
 .ret)
 .skip))
 (.seq (.seq (.ops [⟨some 80, none, .mov (.tmp 8)⟩,
 ⟨some 81, none, .bin .leq (.tmp 80) (.const (.int .i64 3))⟩])
 (.cond (.tmp 81)
 (.seq (.ops [⟨some 82, none, .mov (.tmp 5)⟩,
 ⟨some 83, none, .bin .and (.tmp 82) (.const (.int .u8 15))⟩,
 ⟨some 84, none, .cvi .i32 (.tmp 83)⟩,
 ⟨some 85, none, .bin .shl (.tmp 84) (.const (.int .u64 12))⟩,
 ⟨some 86, none, .mov (.tmp 10)⟩,
 ⟨some 87, none, .bin .and (.tmp 86) (.const (.int .u8 63))⟩,
 ⟨some 88, none, .cvi .i32 (.tmp 87)⟩,
 ⟨some 89, none, .bin .shl (.tmp 88) (.const (.int .u64 6))⟩,
 ⟨some 90, none, .bin .or (.tmp 85) (.tmp 89)⟩,
 ⟨some 91, none, .mov (.tmp 11)⟩,
 ⟨some 92, none, .bin .and (.tmp 91) (.const (.int .u8 63))⟩,
 ⟨some 93, none, .cvi .i32 (.tmp 92)⟩,
 ⟨some 94, none, .bin .or (.tmp 90) (.tmp 93)⟩,
 ⟨some 2, none, .mov (.tmp 94)⟩,
 ⟨some 3, none, .mov (.const (.int .i64 3))⟩])
 .ret)
 .skip))
 (.seq (.ops [⟨some 95, none, .mov (.tmp 0)⟩,
 ⟨some 96, none, .iad 1 (.tmp 95) (.const (.int .i64 3))⟩,
 ⟨some 97, none, .ld1 (.tmp 96)⟩,
 ⟨some 12, none, .mov (.tmp 97)⟩])
 (.seq (.seq (.ops [⟨some 98, none, .mov (.tmp 12)⟩,
 ⟨some 99, none, .bin .lss (.tmp 98) (.const (.int .u8 128))⟩,
 ⟨some 100, none, .mov (.tmp 99)⟩,
 ⟨some 101, (some (100, false)), .mov (.tmp 12)⟩,
 ⟨some 102, (some (100, false)), .bin .lss (.const (.int .u8 191)) (.tmp 101)⟩,
 ⟨some 103, none, .pick (.tmp 100) (.const (.bool true)) (.tmp 102)⟩])
 (.cond (.tmp 103)
 (.seq (.ops [⟨some 2, none, .mov (.const (.int .i32 65533))⟩,
 ⟨some 3, none, .mov (.const (.int .i64 1))⟩])
 .ret)
 .skip))
 (.seq (.ops [⟨some 104, none, .mov (.tmp 5)⟩,
 ⟨some 105, none, .bin .and (.tmp 104) (.const (.int .u8 7))⟩,
 ⟨some 106, none, .cvi .i32 (.tmp 105)⟩,
 ⟨some 107, none, .bin .shl (.tmp 106) (.const (.int .u64 18))⟩,
 ⟨some 108, none, .mov (.tmp 10)⟩,
 ⟨some 109, none, .bin .and (.tmp 108) (.const (.int .u8 63))⟩,
 ⟨some 110, none, .cvi .i32 (.tmp 109)⟩,
 ⟨some 111, none, .bin .shl (.tmp 110) (.const (.int .u64 12))⟩,
 ⟨some 112, none, .bin .or (.tmp 107) (.tmp 111)⟩,
 ⟨some 113, none, .mov (.tmp 11)⟩,
 ⟨some 114, none, .bin .and (.tmp 113) (.const (.int .u8 63))⟩,
 ⟨some 115, none, .cvi .i32 (.tmp 114)⟩,
 ⟨some 116, none, .bin .shl (.tmp 115) (.const (.int .u64 6))⟩,
 ⟨some 117, none, .bin .or (.tmp 112) (.tmp 116)⟩,
 ⟨some 118, none, .mov (.tmp 12)⟩,
 ⟨some 119, none, .bin .and (.tmp 118) (.const (.int .u8 63))⟩,
 ⟨some 120, none, .cvi .i32 (.tmp 119)⟩,
 ⟨some 121, none, .bin .or (.tmp 117) (.tmp 120)⟩,
 ⟨some 2, none, .mov (.tmp 121)⟩,
 ⟨some 3, none, .mov (.const (.int .i64 4))⟩])
 .ret))))))))))))))))))⟩
theorem ok268 : compF Tryz.prog Tryz.f268 = some c268 := by kernel_rfl
def codes : List (Nat × CF) := [(3, c3), (4, c4), (5, c5), (6, c6), (7, c7), (8, c8), (9, c9), (10, c10), (11, c11), (12, c12), (13, c13), (14, c14), (15, c15), (16, c16), (17, c17), (18, c18), (19, c19), (20, c20), (21, c21), (22, c22), (23, c23), (24, c24), (25, c25), (26, c26), (27, c27), (28, c28), (29, c29), (30, c30), (31, c31), (32, c32), (33, c33), (34, c34), (35, c35), (36, c36), (37, c37), (38, c38), (39, c39), (40, c40), (41, c41), (42, c42), (44, c44), (45, c45), (46, c46), (47, c47), (48, c48), (49, c49), (50, c50), (51, c51), (52, c52), (53, c53), (54, c54), (55, c55), (56, c56), (57, c57), (58, c58), (59, c59), (60, c60), (61, c61), (62, c62), (63, c63), (64, c64), (65, c65), (66, c66), (67, c67), (68, c68), (69, c69), (70, c70), (71, c71), (72, c72), (73, c73), (74, c74), (75, c75), (76, c76), (77, c77), (78, c78), (79, c79), (80, c80), (81, c81), (82, c82), (83, c83), (84, c84), (86, c86), (87, c87), (88, c88), (89, c89), (90, c90), (91, c91), (92, c92), (93, c93), (94, c94), (95, c95), (96, c96), (97, c97), (98, c98), (99, c99), (100, c100), (101, c101), (102, c102), (103, c103), (104, c104), (105, c105), (106, c106), (107, c107), (108, c108), (109, c109), (110, c110), (111, c111), (112, c112), (113, c113), (114, c114), (115, c115), (116, c116), (117, c117), (118, c118), (119, c119), (120, c120), (121, c121), (122, c122), (123, c123), (124, c124), (125, c125), (126, c126), (127, c127), (128, c128), (129, c129), (130, c130), (131, c131), (132, c132), (133, c133), (134, c134), (135, c135), (136, c136), (137, c137), (138, c138), (139, c139), (140, c140), (141, c141), (142, c142), (143, c143), (144, c144), (145, c145), (146, c146), (147, c147), (148, c148), (149, c149), (150, c150), (151, c151), (152, c152), (153, c153), (154, c154), (156, c156), (157, c157), (158, c158), (159, c159), (160, c160), (161, c161), (162, c162), (163, c163), (164, c164), (165, c165), (166, c166), (167, c167), (168, c168), (169, c169), (170, c170), (171, c171), (172, c172), (173, c173), (174, c174), (175, c175), (176, c176), (177, c177), (178, c178), (179, c179), (180, c180), (181, c181), (182, c182), (183, c183), (184, c184), (185, c185), (186, c186), (187, c187), (188, c188), (189, c189), (190, c190), (191, c191), (192, c192), (193, c193), (194, c194), (195, c195), (196, c196), (197, c197), (198, c198), (199, c199), (200, c200), (201, c201), (202, c202), (203, c203), (204, c204), (205, c205), (206, c206), (207, c207), (208, c208), (209, c209), (210, c210), (211, c211), (212, c212), (213, c213), (214, c214), (215, c215), (216, c216), (217, c217), (218, c218), (219, c219), (220, c220), (221, c221), (222, c222), (223, c223), (224, c224), (225, c225), (226, c226), (227, c227), (228, c228), (229, c229), (230, c230), (231, c231), (232, c232), (233, c233), (234, c234), (235, c235), (236, c236), (237, c237), (238, c238), (239, c239), (240, c240), (241, c241), (242, c242), (243, c243), (244, c244), (245, c245), (246, c246), (247, c247), (248, c248), (249, c249), (250, c250), (251, c251), (252, c252), (253, c253), (254, c254), (255, c255), (256, c256), (257, c257), (258, c258), (259, c259), (260, c260), (261, c261), (262, c262), (264, c264), (265, c265), (266, c266), (267, c267), (268, c268)]
noncomputable def code : FuncId → Option CF := fget (tabOf codes)
theorem code_ok : ∀ f cf, code f = some cf → ∃ fn, Tryz.prog.funcs[f]? = some fn ∧ compF Tryz.prog fn = some cf := by
  refine code_of_tab ?_
  refine List.forall_mem_cons.2 ⟨⟨_, Tryz.func3, ok3⟩, ?_⟩
  refine List.forall_mem_cons.2 ⟨⟨_, Tryz.func4, ok4⟩, ?_⟩
  refine List.forall_mem_cons.2 ⟨⟨_, Tryz.func5, ok5⟩, ?_⟩
  refine List.forall_mem_cons.2 ⟨⟨_, Tryz.func6, ok6⟩, ?_⟩
  refine List.forall_mem_cons.2 ⟨⟨_, Tryz.func7, ok7⟩, ?_⟩
  refine List.forall_mem_cons.2 ⟨⟨_, Tryz.func8, ok8⟩, ?_⟩
  refine List.forall_mem_cons.2 ⟨⟨_, Tryz.func9, ok9⟩, ?_⟩
  refine List.forall_mem_cons.2 ⟨⟨_, Tryz.func10, ok10⟩, ?_⟩
  refine List.forall_mem_cons.2 ⟨⟨_, Tryz.func11, ok11⟩, ?_⟩
  refine List.forall_mem_cons.2 ⟨⟨_, Tryz.func12, ok12⟩, ?_⟩
  refine List.forall_mem_cons.2 ⟨⟨_, Tryz.func13, ok13⟩, ?_⟩
  refine List.forall_mem_cons.2 ⟨⟨_, Tryz.func14, ok14⟩, ?_⟩
  refine List.forall_mem_cons.2 ⟨⟨_, Tryz.func15, ok15⟩, ?_⟩
  refine List.forall_mem_cons.2 ⟨⟨_, Tryz.func16, ok16⟩, ?_⟩
  refine List.forall_mem_cons.2 ⟨⟨_, Tryz.func17, ok17⟩, ?_⟩
  refine List.forall_mem_cons.2 ⟨⟨_, Tryz.func18, ok18⟩, ?_⟩
  refine List.forall_mem_cons.2 ⟨⟨_, Tryz.func19, ok19⟩, ?_⟩
  refine List.forall_mem_cons.2 ⟨⟨_, Tryz.func20, ok20⟩, ?_⟩
  refine List.forall_mem_cons.2 ⟨⟨_, Tryz.func21, ok21⟩, ?_⟩
  refine List.forall_mem_cons.2 ⟨⟨_, Tryz.func22, ok22⟩, ?_⟩
  refine List.forall_mem_cons.2 ⟨⟨_, Tryz.func23, ok23⟩, ?_⟩
  refine List.forall_mem_cons.2 ⟨⟨_, Tryz.func24, ok24⟩, ?_⟩
  refine List.forall_mem_cons.2 ⟨⟨_, Tryz.func25, ok25⟩, ?_⟩
  refine List.forall_mem_cons.2 ⟨⟨_, Tryz.func26, ok26⟩, ?_⟩
  refine List.forall_mem_cons.2 ⟨⟨_, Tryz.func27, ok27⟩, ?_⟩
  refine List.forall_mem_cons.2 ⟨⟨_, Tryz.func28, ok28⟩, ?_⟩
  refine List.forall_mem_cons.2 ⟨⟨_, Tryz.func29, ok29⟩, ?_⟩
  refine List.forall_mem_cons.2 ⟨⟨_, Tryz.func30, ok30⟩, ?_⟩
  refine List.forall_mem_cons.2 ⟨⟨_, Tryz.func31, ok31⟩, ?_⟩
  refine List.forall_mem_cons.2 ⟨⟨_, Tryz.func32, ok32⟩, ?_⟩
  refine List.forall_mem_cons.2 ⟨⟨_, Tryz.func33, ok33⟩, ?_⟩
  refine List.forall_mem_cons.2 ⟨⟨_, Tryz.func34, ok34⟩, ?_⟩
  refine List.forall_mem_cons.2 ⟨⟨_, Tryz.func35, ok35⟩, ?_⟩
  refine List.forall_mem_cons.2 ⟨⟨_, Tryz.func36, ok36⟩, ?_⟩
  refine List.forall_mem_cons.2 ⟨⟨_, Tryz.func37, ok37⟩, ?_⟩
  refine List.forall_mem_cons.2 ⟨⟨_, Tryz.func38, ok38⟩, ?_⟩
  refine List.forall_mem_cons.2 ⟨⟨_, Tryz.func39, ok39⟩, ?_⟩
  refine List.forall_mem_cons.2 ⟨⟨_, Tryz.func40, ok40⟩, ?_⟩
  refine List.forall_mem_cons.2 ⟨⟨_, Tryz.func41, ok41⟩, ?_⟩
  refine List.forall_mem_cons.2 ⟨⟨_, Tryz.func42, ok42⟩, ?_⟩
  refine List.forall_mem_cons.2 ⟨⟨_, Tryz.func44, ok44⟩, ?_⟩
  refine List.forall_mem_cons.2 ⟨⟨_, Tryz.func45, ok45⟩, ?_⟩
  refine List.forall_mem_cons.2 ⟨⟨_, Tryz.func46, ok46⟩, ?_⟩
  refine List.forall_mem_cons.2 ⟨⟨_, Tryz.func47, ok47⟩, ?_⟩
  refine List.forall_mem_cons.2 ⟨⟨_, Tryz.func48, ok48⟩, ?_⟩
  refine List.forall_mem_cons.2 ⟨⟨_, Tryz.func49, ok49⟩, ?_⟩
  refine List.forall_mem_cons.2 ⟨⟨_, Tryz.func50, ok50⟩, ?_⟩
  refine List.forall_mem_cons.2 ⟨⟨_, Tryz.func51, ok51⟩, ?_⟩
  refine List.forall_mem_cons.2 ⟨⟨_, Tryz.func52, ok52⟩, ?_⟩
  refine List.forall_mem_cons.2 ⟨⟨_, Tryz.func53, ok53⟩, ?_⟩
  refine List.forall_mem_cons.2 ⟨⟨_, Tryz.func54, ok54⟩, ?_⟩
  refine List.forall_mem_cons.2 ⟨⟨_, Tryz.func55, ok55⟩, ?_⟩
  refine List.forall_mem_cons.2 ⟨⟨_, Tryz.func56, ok56⟩, ?_⟩
  refine List.forall_mem_cons.2 ⟨⟨_, Tryz.func57, ok57⟩, ?_⟩
  refine List.forall_mem_cons.2 ⟨⟨_, Tryz.func58, ok58⟩, ?_⟩
  refine List.forall_mem_cons.2 ⟨⟨_, Tryz.func59, ok59⟩, ?_⟩
  refine List.forall_mem_cons.2 ⟨⟨_, Tryz.func60, ok60⟩, ?_⟩
  refine List.forall_mem_cons.2 ⟨⟨_, Tryz.func61, ok61⟩, ?_⟩
  refine List.forall_mem_cons.2 ⟨⟨_, Tryz.func62, ok62⟩, ?_⟩
  refine List.forall_mem_cons.2 ⟨⟨_, Tryz.func63, ok63⟩, ?_⟩
  refine List.forall_mem_cons.2 ⟨⟨_, Tryz.func64, ok64⟩, ?_⟩
  refine List.forall_mem_cons.2 ⟨⟨_, Tryz.func65, ok65⟩, ?_⟩
  refine List.forall_mem_cons.2 ⟨⟨_, Tryz.func66, ok66⟩, ?_⟩
  refine List.forall_mem_cons.2 ⟨⟨_, Tryz.func67, ok67⟩, ?_⟩
  refine List.forall_mem_cons.2 ⟨⟨_, Tryz.func68, ok68⟩, ?_⟩
  refine List.forall_mem_cons.2 ⟨⟨_, Tryz.func69, ok69⟩, ?_⟩
  refine List.forall_mem_cons.2 ⟨⟨_, Tryz.func70, ok70⟩, ?_⟩
  refine List.forall_mem_cons.2 ⟨⟨_, Tryz.func71, ok71⟩, ?_⟩
  refine List.forall_mem_cons.2 ⟨⟨_, Tryz.func72, ok72⟩, ?_⟩
  refine List.forall_mem_cons.2 ⟨⟨_, Tryz.func73, ok73⟩, ?_⟩
  refine List.forall_mem_cons.2 ⟨⟨_, Tryz.func74, ok74⟩, ?_⟩
  refine List.forall_mem_cons.2 ⟨⟨_, Tryz.func75, ok75⟩, ?_⟩
  refine List.forall_mem_cons.2 ⟨⟨_, Tryz.func76, ok76⟩, ?_⟩
  refine List.forall_mem_cons.2 ⟨⟨_, Tryz.func77, ok77⟩, ?_⟩
  refine List.forall_mem_cons.2 ⟨⟨_, Tryz.func78, ok78⟩, ?_⟩
  refine List.forall_mem_cons.2 ⟨⟨_, Tryz.func79, ok79⟩, ?_⟩
  refine List.forall_mem_cons.2 ⟨⟨_, Tryz.func80, ok80⟩, ?_⟩
  refine List.forall_mem_cons.2 ⟨⟨_, Tryz.func81, ok81⟩, ?_⟩
  refine List.forall_mem_cons.2 ⟨⟨_, Tryz.func82, ok82⟩, ?_⟩
  refine List.forall_mem_cons.2 ⟨⟨_, Tryz.func83, ok83⟩, ?_⟩
  refine List.forall_mem_cons.2 ⟨⟨_, Tryz.func84, ok84⟩, ?_⟩
  refine List.forall_mem_cons.2 ⟨⟨_, Tryz.func86, ok86⟩, ?_⟩
  refine List.forall_mem_cons.2 ⟨⟨_, Tryz.func87, ok87⟩, ?_⟩
  refine List.forall_mem_cons.2 ⟨⟨_, Tryz.func88, ok88⟩, ?_⟩
  refine List.forall_mem_cons.2 ⟨⟨_, Tryz.func89, ok89⟩, ?_⟩
  refine List.forall_mem_cons.2 ⟨⟨_, Tryz.func90, ok90⟩, ?_⟩
  refine List.forall_mem_cons.2 ⟨⟨_, Tryz.func91, ok91⟩, ?_⟩
  refine List.forall_mem_cons.2 ⟨⟨_, Tryz.func92, ok92⟩, ?_⟩
  refine List.forall_mem_cons.2 ⟨⟨_, Tryz.func93, ok93⟩, ?_⟩
  refine List.forall_mem_cons.2 ⟨⟨_, Tryz.func94, ok94⟩, ?_⟩
  refine List.forall_mem_cons.2 ⟨⟨_, Tryz.func95, ok95⟩, ?_⟩
  refine List.forall_mem_cons.2 ⟨⟨_, Tryz.func96, ok96⟩, ?_⟩
  refine List.forall_mem_cons.2 ⟨⟨_, Tryz.func97, ok97⟩, ?_⟩
  refine List.forall_mem_cons.2 ⟨⟨_, Tryz.func98, ok98⟩, ?_⟩
  refine List.forall_mem_cons.2 ⟨⟨_, Tryz.func99, ok99⟩, ?_⟩
  refine List.forall_mem_cons.2 ⟨⟨_, Tryz.func100, ok100⟩, ?_⟩
  refine List.forall_mem_cons.2 ⟨⟨_, Tryz.func101, ok101⟩, ?_⟩
  refine List.forall_mem_cons.2 ⟨⟨_, Tryz.func102, ok102⟩, ?_⟩
  refine List.forall_mem_cons.2 ⟨⟨_, Tryz.func103, ok103⟩, ?_⟩
  refine List.forall_mem_cons.2 ⟨⟨_, Tryz.func104, ok104⟩, ?_⟩
  refine List.forall_mem_cons.2 ⟨⟨_, Tryz.func105, ok105⟩, ?_⟩
  refine List.forall_mem_cons.2 ⟨⟨_, Tryz.func106, ok106⟩, ?_⟩
  refine List.forall_mem_cons.2 ⟨⟨_, Tryz.func107, ok107⟩, ?_⟩
  refine List.forall_mem_cons.2 ⟨⟨_, Tryz.func108, ok108⟩, ?_⟩
  refine List.forall_mem_cons.2 ⟨⟨_, Tryz.func109, ok109⟩, ?_⟩
  refine List.forall_mem_cons.2 ⟨⟨_, Tryz.func110, ok110⟩, ?_⟩
  refine List.forall_mem_cons.2 ⟨⟨_, Tryz.func111, ok111⟩, ?_⟩
  refine List.forall_mem_cons.2 ⟨⟨_, Tryz.func112, ok112⟩, ?_⟩
  refine List.forall_mem_cons.2 ⟨⟨_, Tryz.func113, ok113⟩, ?_⟩
  refine List.forall_mem_cons.2 ⟨⟨_, Tryz.func114, ok114⟩, ?_⟩
  refine List.forall_mem_cons.2 ⟨⟨_, Tryz.func115, ok115⟩, ?_⟩
  refine List.forall_mem_cons.2 ⟨⟨_, Tryz.func116, ok116⟩, ?_⟩
  refine List.forall_mem_cons.2 ⟨⟨_, Tryz.func117, ok117⟩, ?_⟩
  refine List.forall_mem_cons.2 ⟨⟨_, Tryz.func118, ok118⟩, ?_⟩
  refine List.forall_mem_cons.2 ⟨⟨_, Tryz.func119, ok119⟩, ?_⟩
  refine List.forall_mem_cons.2 ⟨⟨_, Tryz.func120, ok120⟩, ?_⟩
  refine List.forall_mem_cons.2 ⟨⟨_, Tryz.func121, ok121⟩, ?_⟩
  refine List.forall_mem_cons.2 ⟨⟨_, Tryz.func122, ok122⟩, ?_⟩
  refine List.forall_mem_cons.2 ⟨⟨_, Tryz.func123, ok123⟩, ?_⟩
  refine List.forall_mem_cons.2 ⟨⟨_, Tryz.func124, ok124⟩, ?_⟩
  refine List.forall_mem_cons.2 ⟨⟨_, Tryz.func125, ok125⟩, ?_⟩
  refine List.forall_mem_cons.2 ⟨⟨_, Tryz.func126, ok126⟩, ?_⟩
  refine List.forall_mem_cons.2 ⟨⟨_, Tryz.func127, ok127⟩, ?_⟩
  refine List.forall_mem_cons.2 ⟨⟨_, Tryz.func128, ok128⟩, ?_⟩
  refine List.forall_mem_cons.2 ⟨⟨_, Tryz.func129, ok129⟩, ?_⟩
  refine List.forall_mem_cons.2 ⟨⟨_, Tryz.func130, ok130⟩, ?_⟩
  refine List.forall_mem_cons.2 ⟨⟨_, Tryz.func131, ok131⟩, ?_⟩
  refine List.forall_mem_cons.2 ⟨⟨_, Tryz.func132, ok132⟩, ?_⟩
  refine List.forall_mem_cons.2 ⟨⟨_, Tryz.func133, ok133⟩, ?_⟩
  refine List.forall_mem_cons.2 ⟨⟨_, Tryz.func134, ok134⟩, ?_⟩
  refine List.forall_mem_cons.2 ⟨⟨_, Tryz.func135, ok135⟩, ?_⟩
  refine List.forall_mem_cons.2 ⟨⟨_, Tryz.func136, ok136⟩, ?_⟩
  refine List.forall_mem_cons.2 ⟨⟨_, Tryz.func137, ok137⟩, ?_⟩
  refine List.forall_mem_cons.2 ⟨⟨_, Tryz.func138, ok138⟩, ?_⟩
  refine List.forall_mem_cons.2 ⟨⟨_, Tryz.func139, ok139⟩, ?_⟩
  refine List.forall_mem_cons.2 ⟨⟨_, Tryz.func140, ok140⟩, ?_⟩
  refine List.forall_mem_cons.2 ⟨⟨_, Tryz.func141, ok141⟩, ?_⟩
  refine List.forall_mem_cons.2 ⟨⟨_, Tryz.func142, ok142⟩, ?_⟩
  refine List.forall_mem_cons.2 ⟨⟨_, Tryz.func143, ok143⟩, ?_⟩
  refine List.forall_mem_cons.2 ⟨⟨_, Tryz.func144, ok144⟩, ?_⟩
  refine List.forall_mem_cons.2 ⟨⟨_, Tryz.func145, ok145⟩, ?_⟩
  refine List.forall_mem_cons.2 ⟨⟨_, Tryz.func146, ok146⟩, ?_⟩
  refine List.forall_mem_cons.2 ⟨⟨_, Tryz.func147, ok147⟩, ?_⟩
  refine List.forall_mem_cons.2 ⟨⟨_, Tryz.func148, ok148⟩, ?_⟩
  refine List.forall_mem_cons.2 ⟨⟨_, Tryz.func149, ok149⟩, ?_⟩
  refine List.forall_mem_cons.2 ⟨⟨_, Tryz.func150, ok150⟩, ?_⟩
  refine List.forall_mem_cons.2 ⟨⟨_, Tryz.func151, ok151⟩, ?_⟩
  refine List.forall_mem_cons.2 ⟨⟨_, Tryz.func152, ok152⟩, ?_⟩
  refine List.forall_mem_cons.2 ⟨⟨_, Tryz.func153, ok153⟩, ?_⟩
  refine List.forall_mem_cons.2 ⟨⟨_, Tryz.func154, ok154⟩, ?_⟩
  refine List.forall_mem_cons.2 ⟨⟨_, Tryz.func156, ok156⟩, ?_⟩
  refine List.forall_mem_cons.2 ⟨⟨_, Tryz.func157, ok157⟩, ?_⟩
  refine List.forall_mem_cons.2 ⟨⟨_, Tryz.func158, ok158⟩, ?_⟩
  refine List.forall_mem_cons.2 ⟨⟨_, Tryz.func159, ok159⟩, ?_⟩
  refine List.forall_mem_cons.2 ⟨⟨_, Tryz.func160, ok160⟩, ?_⟩
  refine List.forall_mem_cons.2 ⟨⟨_, Tryz.func161, ok161⟩, ?_⟩
  refine List.forall_mem_cons.2 ⟨⟨_, Tryz.func162, ok162⟩, ?_⟩
  refine List.forall_mem_cons.2 ⟨⟨_, Tryz.func163, ok163⟩, ?_⟩
  refine List.forall_mem_cons.2 ⟨⟨_, Tryz.func164, ok164⟩, ?_⟩
  refine List.forall_mem_cons.2 ⟨⟨_, Tryz.func165, ok165⟩, ?_⟩
  refine List.forall_mem_cons.2 ⟨⟨_, Tryz.func166, ok166⟩, ?_⟩
  refine List.forall_mem_cons.2 ⟨⟨_, Tryz.func167, ok167⟩, ?_⟩
  refine List.forall_mem_cons.2 ⟨⟨_, Tryz.func168, ok168⟩, ?_⟩
  refine List.forall_mem_cons.2 ⟨⟨_, Tryz.func169, ok169⟩, ?_⟩
  refine List.forall_mem_cons.2 ⟨⟨_, Tryz.func170, ok170⟩, ?_⟩
  refine List.forall_mem_cons.2 ⟨⟨_, Tryz.func171, ok171⟩, ?_⟩
  refine List.forall_mem_cons.2 ⟨⟨_, Tryz.func172, ok172⟩, ?_⟩
  refine List.forall_mem_cons.2 ⟨⟨_, Tryz.func173, ok173⟩, ?_⟩
  refine List.forall_mem_cons.2 ⟨⟨_, Tryz.func174, ok174⟩, ?_⟩
  refine List.forall_mem_cons.2 ⟨⟨_, Tryz.func175, ok175⟩, ?_⟩
  refine List.forall_mem_cons.2 ⟨⟨_, Tryz.func176, ok176⟩, ?_⟩
  refine List.forall_mem_cons.2 ⟨⟨_, Tryz.func177, ok177⟩, ?_⟩
  refine List.forall_mem_cons.2 ⟨⟨_, Tryz.func178, ok178⟩, ?_⟩
  refine List.forall_mem_cons.2 ⟨⟨_, Tryz.func179, ok179⟩, ?_⟩
  refine List.forall_mem_cons.2 ⟨⟨_, Tryz.func180, ok180⟩, ?_⟩
  refine List.forall_mem_cons.2 ⟨⟨_, Tryz.func181, ok181⟩, ?_⟩
  refine List.forall_mem_cons.2 ⟨⟨_, Tryz.func182, ok182⟩, ?_⟩
  refine List.forall_mem_cons.2 ⟨⟨_, Tryz.func183, ok183⟩, ?_⟩
  refine List.forall_mem_cons.2 ⟨⟨_, Tryz.func184, ok184⟩, ?_⟩
  refine List.forall_mem_cons.2 ⟨⟨_, Tryz.func185, ok185⟩, ?_⟩
  refine List.forall_mem_cons.2 ⟨⟨_, Tryz.func186, ok186⟩, ?_⟩
  refine List.forall_mem_cons.2 ⟨⟨_, Tryz.func187, ok187⟩, ?_⟩
  refine List.forall_mem_cons.2 ⟨⟨_, Tryz.func188, ok188⟩, ?_⟩
  refine List.forall_mem_cons.2 ⟨⟨_, Tryz.func189, ok189⟩, ?_⟩
  refine List.forall_mem_cons.2 ⟨⟨_, Tryz.func190, ok190⟩, ?_⟩
  refine List.forall_mem_cons.2 ⟨⟨_, Tryz.func191, ok191⟩, ?_⟩
  refine List.forall_mem_cons.2 ⟨⟨_, Tryz.func192, ok192⟩, ?_⟩
  refine List.forall_mem_cons.2 ⟨⟨_, Tryz.func193, ok193⟩, ?_⟩
  refine List.forall_mem_cons.2 ⟨⟨_, Tryz.func194, ok194⟩, ?_⟩
  refine List.forall_mem_cons.2 ⟨⟨_, Tryz.func195, ok195⟩, ?_⟩
  refine List.forall_mem_cons.2 ⟨⟨_, Tryz.func196, ok196⟩, ?_⟩
  refine List.forall_mem_cons.2 ⟨⟨_, Tryz.func197, ok197⟩, ?_⟩
  refine List.forall_mem_cons.2 ⟨⟨_, Tryz.func198, ok198⟩, ?_⟩
  refine List.forall_mem_cons.2 ⟨⟨_, Tryz.func199, ok199⟩, ?_⟩
  refine List.forall_mem_cons.2 ⟨⟨_, Tryz.func200, ok200⟩, ?_⟩
  refine List.forall_mem_cons.2 ⟨⟨_, Tryz.func201, ok201⟩, ?_⟩
  refine List.forall_mem_cons.2 ⟨⟨_, Tryz.func202, ok202⟩, ?_⟩
  refine List.forall_mem_cons.2 ⟨⟨_, Tryz.func203, ok203⟩, ?_⟩
  refine List.forall_mem_cons.2 ⟨⟨_, Tryz.func204, ok204⟩, ?_⟩
  refine List.forall_mem_cons.2 ⟨⟨_, Tryz.func205, ok205⟩, ?_⟩
  refine List.forall_mem_cons.2 ⟨⟨_, Tryz.func206, ok206⟩, ?_⟩
  refine List.forall_mem_cons.2 ⟨⟨_, Tryz.func207, ok207⟩, ?_⟩
  refine List.forall_mem_cons.2 ⟨⟨_, Tryz.func208, ok208⟩, ?_⟩
  refine List.forall_mem_cons.2 ⟨⟨_, Tryz.func209, ok209⟩, ?_⟩
  refine List.forall_mem_cons.2 ⟨⟨_, Tryz.func210, ok210⟩, ?_⟩
  refine List.forall_mem_cons.2 ⟨⟨_, Tryz.func211, ok211⟩, ?_⟩
  refine List.forall_mem_cons.2 ⟨⟨_, Tryz.func212, ok212⟩, ?_⟩
  refine List.forall_mem_cons.2 ⟨⟨_, Tryz.func213, ok213⟩, ?_⟩
  refine List.forall_mem_cons.2 ⟨⟨_, Tryz.func214, ok214⟩, ?_⟩
  refine List.forall_mem_cons.2 ⟨⟨_, Tryz.func215, ok215⟩, ?_⟩
  refine List.forall_mem_cons.2 ⟨⟨_, Tryz.func216, ok216⟩, ?_⟩
  refine List.forall_mem_cons.2 ⟨⟨_, Tryz.func217, ok217⟩, ?_⟩
  refine List.forall_mem_cons.2 ⟨⟨_, Tryz.func218, ok218⟩, ?_⟩
  refine List.forall_mem_cons.2 ⟨⟨_, Tryz.func219, ok219⟩, ?_⟩
  refine List.forall_mem_cons.2 ⟨⟨_, Tryz.func220, ok220⟩, ?_⟩
  refine List.forall_mem_cons.2 ⟨⟨_, Tryz.func221, ok221⟩, ?_⟩
  refine List.forall_mem_cons.2 ⟨⟨_, Tryz.func222, ok222⟩, ?_⟩
  refine List.forall_mem_cons.2 ⟨⟨_, Tryz.func223, ok223⟩, ?_⟩
  refine List.forall_mem_cons.2 ⟨⟨_, Tryz.func224, ok224⟩, ?_⟩
  refine List.forall_mem_cons.2 ⟨⟨_, Tryz.func225, ok225⟩, ?_⟩
  refine List.forall_mem_cons.2 ⟨⟨_, Tryz.func226, ok226⟩, ?_⟩
  refine List.forall_mem_cons.2 ⟨⟨_, Tryz.func227, ok227⟩, ?_⟩
  refine List.forall_mem_cons.2 ⟨⟨_, Tryz.func228, ok228⟩, ?_⟩
  refine List.forall_mem_cons.2 ⟨⟨_, Tryz.func229, ok229⟩, ?_⟩
  refine List.forall_mem_cons.2 ⟨⟨_, Tryz.func230, ok230⟩, ?_⟩
  refine List.forall_mem_cons.2 ⟨⟨_, Tryz.func231, ok231⟩, ?_⟩
  refine List.forall_mem_cons.2 ⟨⟨_, Tryz.func232, ok232⟩, ?_⟩
  refine List.forall_mem_cons.2 ⟨⟨_, Tryz.func233, ok233⟩, ?_⟩
  refine List.forall_mem_cons.2 ⟨⟨_, Tryz.func234, ok234⟩, ?_⟩
  refine List.forall_mem_cons.2 ⟨⟨_, Tryz.func235, ok235⟩, ?_⟩
  refine List.forall_mem_cons.2 ⟨⟨_, Tryz.func236, ok236⟩, ?_⟩
  refine List.forall_mem_cons.2 ⟨⟨_, Tryz.func237, ok237⟩, ?_⟩
  refine List.forall_mem_cons.2 ⟨⟨_, Tryz.func238, ok238⟩, ?_⟩
  refine List.forall_mem_cons.2 ⟨⟨_, Tryz.func239, ok239⟩, ?_⟩
  refine List.forall_mem_cons.2 ⟨⟨_, Tryz.func240, ok240⟩, ?_⟩
  refine List.forall_mem_cons.2 ⟨⟨_, Tryz.func241, ok241⟩, ?_⟩
  refine List.forall_mem_cons.2 ⟨⟨_, Tryz.func242, ok242⟩, ?_⟩
  refine List.forall_mem_cons.2 ⟨⟨_, Tryz.func243, ok243⟩, ?_⟩
  refine List.forall_mem_cons.2 ⟨⟨_, Tryz.func244, ok244⟩, ?_⟩
  refine List.forall_mem_cons.2 ⟨⟨_, Tryz.func245, ok245⟩, ?_⟩
  refine List.forall_mem_cons.2 ⟨⟨_, Tryz.func246, ok246⟩, ?_⟩
  refine List.forall_mem_cons.2 ⟨⟨_, Tryz.func247, ok247⟩, ?_⟩
  refine List.forall_mem_cons.2 ⟨⟨_, Tryz.func248, ok248⟩, ?_⟩
  refine List.forall_mem_cons.2 ⟨⟨_, Tryz.func249, ok249⟩, ?_⟩
  refine List.forall_mem_cons.2 ⟨⟨_, Tryz.func250, ok250⟩, ?_⟩
  refine List.forall_mem_cons.2 ⟨⟨_, Tryz.func251, ok251⟩, ?_⟩
  refine List.forall_mem_cons.2 ⟨⟨_, Tryz.func252, ok252⟩, ?_⟩
  refine List.forall_mem_cons.2 ⟨⟨_, Tryz.func253, ok253⟩, ?_⟩
  refine List.forall_mem_cons.2 ⟨⟨_, Tryz.func254, ok254⟩, ?_⟩
  refine List.forall_mem_cons.2 ⟨⟨_, Tryz.func255, ok255⟩, ?_⟩
  refine List.forall_mem_cons.2 ⟨⟨_, Tryz.func256, ok256⟩, ?_⟩
  refine List.forall_mem_cons.2 ⟨⟨_, Tryz.func257, ok257⟩, ?_⟩
  refine List.forall_mem_cons.2 ⟨⟨_, Tryz.func258, ok258⟩, ?_⟩
  refine List.forall_mem_cons.2 ⟨⟨_, Tryz.func259, ok259⟩, ?_⟩
  refine List.forall_mem_cons.2 ⟨⟨_, Tryz.func260, ok260⟩, ?_⟩
  refine List.forall_mem_cons.2 ⟨⟨_, Tryz.func261, ok261⟩, ?_⟩
  refine List.forall_mem_cons.2 ⟨⟨_, Tryz.func262, ok262⟩, ?_⟩
  refine List.forall_mem_cons.2 ⟨⟨_, Tryz.func264, ok264⟩, ?_⟩
  refine List.forall_mem_cons.2 ⟨⟨_, Tryz.func265, ok265⟩, ?_⟩
  refine List.forall_mem_cons.2 ⟨⟨_, Tryz.func266, ok266⟩, ?_⟩
  refine List.forall_mem_cons.2 ⟨⟨_, Tryz.func267, ok267⟩, ?_⟩
  refine List.forall_mem_cons.2 ⟨⟨_, Tryz.func268, ok268⟩, ?_⟩
  exact fun _ h => (by cases h)
end Go.Proofs.YtiblfhiiombfcaaGreatDoor.code
