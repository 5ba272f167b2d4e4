/- The code that the law reaches, as the interpreter takes it; each function's is shown to be the program's own. By an AI agent. No person has read it. -/
import Derived.Test.YtiblfhiiombfcaaGreatDoorAm4
import Derived.Test.YtiblfhiiombfcaaGreatDoorChecked
import Derived.KernelRfl
namespace Go.Proofs.YtiblfhiiombfcaaGreatDoor.code
open Go Am
set_option maxRecDepth 100000
def c3 : CF := ⟨2, [.tmp 0],
 (.seq (.ops [⟨some 0, none, .mov (.const (.bool false))⟩])
 (.seq (.ops [⟨some 1, none, .call (.func 4) []⟩,
 ⟨some 0, none, .mov (.tmp 1)⟩])
 .ret))⟩
theorem ok3 : compF Tryz.prog Tryz.f3 = some c3 := by kernel_rfl
def c4 : CF := ⟨56, [.tmp 0],
 (.seq (.ops [⟨some 0, none, .mov (.const (.bool false))⟩])
 (.seq (.ops [⟨some 8, none, .call (.func 6) []⟩,
 ⟨some 9, none, .call (.func 5) [(.tmp 8), (.const (.int .i64 100))]⟩,
 ⟨some 7, none, .mov (.tmp 9)⟩,
 ⟨some 10, none, .ext (.tmp 7) 0⟩,
 ⟨some 11, none, .ext (.tmp 7) 1⟩,
 ⟨some 1, none, .mov (.tmp 10)⟩,
 ⟨some 2, none, .mov (.tmp 11)⟩])
 (.seq (.ops [⟨some 12, none, .agg [(.string ⟨#[]⟩), (.string ⟨#[]⟩), (.string ⟨#[]⟩), (.string ⟨#[]⟩), (.string ⟨#[]⟩)] [(0, 1, (.const (.string ⟨#[48, 58, 32, 40, 108, 101, 116, 32, 40, 40, 118, 46, 48, 32, 49, 41, 41, 32, 40, 111, 114, 32, 35, 102, 32, 40, 43, 32, 118, 46, 48, 32, 50, 41, 41, 41]⟩))), (1, 1, (.const (.string ⟨#[49, 58, 32, 40, 111, 114, 32, 35, 102, 32, 40, 43, 32, 49, 32, 50, 41, 41]⟩))), (2, 1, (.const (.string ⟨#[51, 58, 32, 40, 111, 114, 32, 40, 43, 32, 49, 32, 50, 41, 41]⟩))), (3, 1, (.const (.string ⟨#[52, 58, 32, 40, 43, 32, 49, 32, 50, 41]⟩))), (4, 1, (.const (.string ⟨#[53, 58, 32, 51]⟩)))]⟩,
 ⟨some 3, none, .newz [(.string ⟨#[]⟩), (.string ⟨#[]⟩), (.string ⟨#[]⟩), (.string ⟨#[]⟩), (.string ⟨#[]⟩)]⟩,
 ⟨none, none, .st 5 (.tmp 3) (.tmp 12)⟩])
 (.seq (.seq (.ops [⟨some 13, none, .mov (.tmp 2)⟩,
 ⟨some 14, none, .bin .neq (.tmp 13) (.const (.int .i64 0))⟩,
 ⟨some 15, none, .mov (.tmp 14)⟩,
 ⟨some 16, (some (15, false)), .mov (.tmp 1)⟩,
 ⟨some 17, (some (15, false)), .lnl (.tmp 16)⟩,
 ⟨some 18, (some (15, false)), .bin .neq (.tmp 17) (.const (.int .i64 5))⟩,
 ⟨some 19, none, .pick (.tmp 15) (.const (.bool true)) (.tmp 18)⟩])
 (.cond (.tmp 19)
 (.seq (.ops [⟨some 0, none, .mov (.const (.bool false))⟩])
 .ret)
 .skip))
 (.seq (.seq (.ops [⟨some 4, none, .mov (.const (.int .i64 0))⟩])
 (.block 0 (.loop (.seq (.seq (.ops [⟨some 20, none, .mov (.tmp 4)⟩,
 ⟨some 21, none, .bin .lss (.tmp 20) (.const (.int .i64 5))⟩])
 (.cond (.tmp 21)
 .skip
 (.exit 0)))
 (.seq (.block 1 (.seq (.draw [⟨some 24, none, .mov (.tmp 1)⟩,
 ⟨some 25, none, .mov (.tmp 4)⟩,
 ⟨some 26, none, .iad 1 (.tmp 24) (.tmp 25)⟩,
 ⟨some 27, none, .ld1 (.tmp 26)⟩,
 ⟨some 28, none, .mov (.tmp 4)⟩,
 ⟨some 29, none, .iaa 5 1 (.tmp 3) (.tmp 28)⟩,
 ⟨some 30, none, .ld1 (.tmp 29)⟩,
 ⟨some 31, none, .bin .neq (.tmp 27) (.tmp 30)⟩] [(0, 1), (0, 4), (1, 4), (2, 4), (3, 4), (0, 5), (1, 5), (2, 5), (3, 5), (0, 6), (1, 6), (2, 6), (3, 6)])
 (.cond (.tmp 31)
 (.seq (.ops [⟨some 0, none, .mov (.const (.bool false))⟩])
 .ret)
 .skip)))
 (.ops [⟨some 22, none, .mov (.tmp 4)⟩,
 ⟨some 23, none, .bin .add (.tmp 22) (.const (.int .i64 1))⟩,
 ⟨some 4, none, .mov (.tmp 23)⟩]))))))
 (.seq (.ops [⟨some 33, none, .call (.func 6) []⟩,
 ⟨some 34, none, .call (.func 7) [(.tmp 33), (.const (.int .i64 2))]⟩,
 ⟨some 32, none, .mov (.tmp 34)⟩,
 ⟨some 35, none, .ext (.tmp 32) 0⟩,
 ⟨some 36, none, .ext (.tmp 32) 1⟩,
 ⟨some 37, none, .ext (.tmp 32) 2⟩,
 ⟨some 5, none, .newz [(.int .i64 0), (.int .i64 0), (.int .i64 0), (.int .i64 0), (.int .i64 0), (.slice none 0 0)]⟩,
 ⟨none, none, .st 6 (.tmp 5) (.tmp 35)⟩,
 ⟨some 6, none, .mov (.tmp 36)⟩,
 ⟨some 2, none, .mov (.tmp 37)⟩])
 (.seq (.ops [⟨some 38, none, .mov (.tmp 2)⟩,
 ⟨some 39, none, .bin .eql (.tmp 38) (.const (.int .i64 0))⟩,
 ⟨some 40, none, .mov (.tmp 39)⟩,
 ⟨some 41, (some (40, true)), .fad (.tmp 5) 1⟩,
 ⟨some 42, (some (40, true)), .ld1 (.tmp 41)⟩,
 ⟨some 43, (some (40, true)), .bin .eql (.tmp 42) (.const (.int .i64 5))⟩,
 ⟨some 44, none, .pick (.tmp 40) (.tmp 43) (.const (.bool false))⟩,
 ⟨some 45, none, .mov (.tmp 44)⟩,
 ⟨some 46, (some (45, true)), .fad (.tmp 5) 0⟩,
 ⟨some 47, (some (45, true)), .ld1 (.tmp 46)⟩,
 ⟨some 48, (some (45, true)), .bin .eql (.tmp 47) (.const (.int .i64 3))⟩,
 ⟨some 49, none, .pick (.tmp 45) (.tmp 48) (.const (.bool false))⟩,
 ⟨some 50, none, .mov (.tmp 49)⟩,
 ⟨some 51, (some (50, true)), .fad (.tmp 5) 5⟩,
 ⟨some 52, (some (50, true)), .ld1 (.tmp 51)⟩,
 ⟨some 53, (some (50, true)), .lnl (.tmp 52)⟩,
 ⟨some 54, (some (50, true)), .bin .eql (.tmp 53) (.const (.int .i64 2))⟩,
 ⟨some 55, none, .pick (.tmp 50) (.tmp 54) (.const (.bool false))⟩,
 ⟨some 0, none, .mov (.tmp 55)⟩])
 .ret)))))))⟩
theorem ok4 : compF Tryz.prog Tryz.f4 = some c4 := by kernel_rfl
def c5 : CF := ⟨22, [.tmp 4, .tmp 5],
 (.seq (.ops [⟨some 4, none, .mov (.const (.slice none 0 0))⟩,
 ⟨some 5, none, .mov (.const (.int .i64 0))⟩])
 (.seq (.ops [⟨some 10, none, .mov (.tmp 0)⟩,
 ⟨some 11, none, .mov (.tmp 1)⟩,
 ⟨some 12, none, .call (.func 8) [(.tmp 10), (.tmp 11)]⟩,
 ⟨some 9, none, .mov (.tmp 12)⟩,
 ⟨some 13, none, .ext (.tmp 9) 0⟩,
 ⟨some 14, none, .ext (.tmp 9) 1⟩,
 ⟨some 15, none, .ext (.tmp 9) 2⟩,
 ⟨some 6, none, .mov (.tmp 13)⟩,
 ⟨some 7, none, .mov (.tmp 14)⟩,
 ⟨some 8, none, .mov (.tmp 15)⟩])
 (.seq (.seq (.ops [⟨some 16, none, .mov (.tmp 8)⟩,
 ⟨some 17, none, .bin .neq (.tmp 16) (.const (.int .i64 0))⟩])
 (.cond (.tmp 17)
 (.seq (.ops [⟨some 18, none, .mov (.tmp 8)⟩,
 ⟨some 4, none, .mov (.const (.slice none 0 0))⟩,
 ⟨some 5, none, .mov (.tmp 18)⟩])
 .ret)
 .skip))
 (.seq (.ops [⟨some 19, none, .mov (.tmp 6)⟩,
 ⟨some 20, none, .call (.func 10) [(.tmp 19)]⟩,
 ⟨some 21, none, .call (.func 9) [(.tmp 20), (.func 11)]⟩,
 ⟨some 4, none, .mov (.tmp 21)⟩,
 ⟨some 5, none, .mov (.const (.int .i64 0))⟩])
 .ret))))⟩
theorem ok5 : compF Tryz.prog Tryz.f5 = some c5 := by kernel_rfl
def c6 : CF := ⟨16, [.tmp 0],
 (.seq (.ops [⟨some 0, none, .mov (.const (.slice none 0 0))⟩])
 (.seq (.ops [⟨some 2, none, .agg [(.int .i64 0), (.int .i64 0), (.int .i64 0), (.string ⟨#[]⟩), (.int .i64 0), (.int .i64 0), (.int .i64 0)] [(0, 1, (.const (.int .i64 7))), (3, 1, (.const (.string ⟨#[43]⟩)))]⟩,
 ⟨some 3, none, .call (.func 14) [(.tmp 2), (.const (.slice none 0 0))]⟩,
 ⟨some 1, none, .mov (.tmp 3)⟩])
 (.seq (.ops [⟨some 4, none, .call (.func 16) [(.const (.int .i64 0))]⟩,
 ⟨some 5, none, .call (.func 17) [(.const (.int .i64 1))]⟩,
 ⟨some 6, none, .call (.func 18) []⟩,
 ⟨some 7, none, .mov (.tmp 1)⟩,
 ⟨some 8, none, .call (.func 19) [(.const (.int .i64 0))]⟩,
 ⟨some 9, none, .call (.func 17) [(.const (.int .i64 2))]⟩,
 ⟨some 10, none, .lits [(.slice none 0 0), (.slice none 0 0), (.slice none 0 0)] 3 [(0, 1, (.tmp 7)), (1, 1, (.tmp 8)), (2, 1, (.tmp 9))]⟩,
 ⟨some 11, none, .call (.func 15) [(.const (.int .i64 10)), (.tmp 10)]⟩,
 ⟨some 12, none, .lits [(.slice none 0 0), (.slice none 0 0)] 2 [(0, 1, (.tmp 6)), (1, 1, (.tmp 11))]⟩,
 ⟨some 13, none, .call (.func 15) [(.const (.int .i64 19)), (.tmp 12)]⟩,
 ⟨some 14, none, .lits [(.slice none 0 0), (.slice none 0 0), (.slice none 0 0)] 3 [(0, 1, (.tmp 4)), (1, 1, (.tmp 5)), (2, 1, (.tmp 13))]⟩,
 ⟨some 15, none, .call (.func 15) [(.const (.int .i64 12)), (.tmp 14)]⟩,
 ⟨some 0, none, .mov (.tmp 15)⟩])
 .ret)))⟩
theorem ok6 : compF Tryz.prog Tryz.f6 = some c6 := by kernel_rfl
def c7 : CF := ⟨39, [.cells 4 6, .tmp 5, .tmp 6],
 (.seq (.ops [⟨some 4, none, .newz [(.int .i64 0), (.int .i64 0), (.int .i64 0), (.int .i64 0), (.int .i64 0), (.slice none 0 0)]⟩,
 ⟨some 5, none, .mov (.const (.int .i64 0))⟩,
 ⟨some 6, none, .mov (.const (.int .i64 0))⟩])
 (.seq (.ops [⟨some 10, none, .mov (.tmp 0)⟩,
 ⟨some 11, none, .mov (.tmp 1)⟩,
 ⟨some 12, none, .call (.func 8) [(.tmp 10), (.tmp 11)]⟩,
 ⟨some 9, none, .mov (.tmp 12)⟩,
 ⟨some 13, none, .ext (.tmp 9) 0⟩,
 ⟨some 14, none, .ext (.tmp 9) 1⟩,
 ⟨some 15, none, .ext (.tmp 9) 2⟩,
 ⟨some 7, none, .mov (.tmp 13)⟩,
 ⟨some 5, none, .mov (.tmp 14)⟩,
 ⟨some 6, none, .mov (.tmp 15)⟩])
 (.seq (.seq (.ops [⟨some 16, none, .mov (.tmp 6)⟩,
 ⟨some 17, none, .bin .neq (.tmp 16) (.const (.int .i64 0))⟩])
 (.cond (.tmp 17)
 (.seq (.ops [⟨some 18, none, .ld 6 (.tmp 4)⟩,
 ⟨some 19, none, .mov (.tmp 5)⟩,
 ⟨some 20, none, .mov (.tmp 6)⟩,
 ⟨none, none, .st 6 (.tmp 4) (.tmp 18)⟩,
 ⟨some 5, none, .mov (.tmp 19)⟩,
 ⟨some 6, none, .mov (.tmp 20)⟩])
 .ret)
 .skip))
 (.seq (.ops [⟨some 21, none, .mov (.tmp 7)⟩,
 ⟨some 22, none, .call (.func 10) [(.tmp 21)]⟩,
 ⟨some 23, none, .call (.func 20) [(.tmp 22), (.func 21)]⟩,
 ⟨some 8, none, .mov (.tmp 23)⟩])
 (.seq (.draw [⟨some 24, none, .mov (.tmp 7)⟩,
 ⟨some 25, none, .nilck (.tmp 24)⟩,
 ⟨some 26, none, .fad (.tmp 25) 1⟩,
 ⟨some 27, none, .ld1 (.tmp 26)⟩,
 ⟨some 28, none, .lnl (.tmp 27)⟩,
 ⟨some 29, none, .mov (.tmp 7)⟩,
 ⟨some 30, none, .nilck (.tmp 29)⟩,
 ⟨some 31, none, .fad (.tmp 30) 2⟩,
 ⟨some 32, none, .ld1 (.tmp 31)⟩,
 ⟨some 33, none, .mov (.tmp 7)⟩,
 ⟨some 34, none, .nilck (.tmp 33)⟩,
 ⟨some 35, none, .fad (.tmp 34) 3⟩,
 ⟨some 36, none, .ld 3 (.tmp 35)⟩,
 ⟨some 37, none, .mov (.tmp 8)⟩,
 ⟨some 38, none, .agg [(.int .i64 0), (.int .i64 0), (.int .i64 0), (.int .i64 0), (.int .i64 0), (.slice none 0 0)] [(0, 1, (.tmp 28)), (1, 1, (.tmp 32)), (2, 3, (.tmp 36)), (5, 1, (.tmp 37))]⟩,
 ⟨none, none, .st 6 (.tmp 4) (.tmp 38)⟩,
 ⟨some 5, none, .mov (.const (.int .i64 0))⟩,
 ⟨some 6, none, .mov (.const (.int .i64 0))⟩] [(0, 5), (1, 5), (2, 5), (3, 5), (4, 5), (0, 6), (1, 6), (2, 6), (3, 6), (4, 6), (0, 7), (1, 7), (2, 7), (3, 7), (4, 7), (0, 8), (1, 8), (2, 8), (3, 8), (4, 8), (0, 9), (1, 9), (2, 9), (3, 9), (4, 9), (5, 9), (6, 9), (7, 9), (8, 9), (0, 10), (1, 10), (2, 10), (3, 10), (4, 10), (5, 10), (6, 10), (7, 10), (8, 10), (0, 11), (1, 11), (2, 11), (3, 11), (4, 11), (5, 11), (6, 11), (7, 11), (8, 11), (0, 12), (1, 12), (2, 12), (3, 12), (4, 12), (5, 12), (6, 12), (7, 12), (8, 12), (0, 13), (1, 13), (2, 13), (3, 13), (4, 13), (5, 13), (6, 13), (7, 13), (8, 13), (9, 13), (10, 13), (11, 13), (12, 13)])
 .ret)))))⟩
theorem ok7 : compF Tryz.prog Tryz.f7 = some c7 := by kernel_rfl
def c8 : CF := ⟨173, [.tmp 4, .tmp 5, .tmp 6],
 (.seq (.ops [⟨some 4, none, .mov (.const (.pointer none))⟩,
 ⟨some 5, none, .mov (.const (.int .i64 0))⟩,
 ⟨some 6, none, .mov (.const (.int .i64 0))⟩])
 (.seq (.ops [⟨some 29, none, .mov (.tmp 0)⟩,
 ⟨some 30, none, .call (.func 22) [(.tmp 29)]⟩,
 ⟨some 28, none, .mov (.tmp 30)⟩,
 ⟨some 31, none, .ext (.tmp 28) 0⟩,
 ⟨some 32, none, .ext (.tmp 28) 1⟩,
 ⟨some 33, none, .ext (.tmp 28) 2⟩,
 ⟨some 7, none, .mov (.tmp 31)⟩,
 ⟨some 5, none, .mov (.tmp 32)⟩,
 ⟨some 6, none, .mov (.tmp 33)⟩])
 (.seq (.seq (.ops [⟨some 34, none, .mov (.tmp 6)⟩,
 ⟨some 35, none, .bin .neq (.tmp 34) (.const (.int .i64 0))⟩])
 (.cond (.tmp 35)
 (.seq (.ops [⟨some 36, none, .mov (.tmp 5)⟩,
 ⟨some 37, none, .mov (.tmp 6)⟩,
 ⟨some 4, none, .mov (.const (.pointer none))⟩,
 ⟨some 5, none, .mov (.tmp 36)⟩,
 ⟨some 6, none, .mov (.tmp 37)⟩])
 .ret)
 .skip))
 (.seq (.ops [⟨some 39, none, .mov (.tmp 7)⟩,
 ⟨some 40, none, .mov (.tmp 1)⟩,
 ⟨some 41, none, .call (.func 23) [(.tmp 39), (.tmp 40)]⟩,
 ⟨some 38, none, .mov (.tmp 41)⟩,
 ⟨some 42, none, .ext (.tmp 38) 0⟩,
 ⟨some 43, none, .ext (.tmp 38) 1⟩,
 ⟨some 44, none, .ext (.tmp 38) 2⟩,
 ⟨some 8, none, .mov (.tmp 42)⟩,
 ⟨some 9, none, .mov (.tmp 43)⟩,
 ⟨some 6, none, .mov (.tmp 44)⟩])
 (.seq (.seq (.ops [⟨some 45, none, .mov (.tmp 6)⟩,
 ⟨some 46, none, .bin .neq (.tmp 45) (.const (.int .i64 0))⟩])
 (.cond (.tmp 46)
 (.seq (.ops [⟨some 47, none, .mov (.tmp 6)⟩,
 ⟨some 4, none, .mov (.const (.pointer none))⟩,
 ⟨some 5, none, .mov (.const (.int .i64 0))⟩,
 ⟨some 6, none, .mov (.tmp 47)⟩])
 .ret)
 .skip))
 (.seq (.ops [⟨some 48, none, .mov (.tmp 0)⟩,
 ⟨some 49, none, .agg [(.slice none 0 0), (.slice none 0 0), (.int .i64 0), (.int .i64 0), (.int .i64 0), (.int .i64 0)] [(0, 1, (.tmp 48)), (2, 1, (.const (.int .i64 5)))]⟩,
 ⟨some 50, none, .box (.tmp 49)⟩,
 ⟨some 4, none, .mov (.tmp 50)⟩])
 (.seq (.ops [⟨some 51, none, .mov (.tmp 0)⟩,
 ⟨some 52, none, .call (.func 24) [(.tmp 51)]⟩,
 ⟨some 10, none, .mov (.tmp 52)⟩])
 (.seq (.seq (.ops [⟨some 53, none, .mov (.tmp 8)⟩,
 ⟨some 54, none, .lnl (.tmp 53)⟩,
 ⟨some 55, none, .mov (.const (.int .i64 0))⟩])
 (.block 0 (.loop (.seq (.ops [⟨some 56, none, .bin .lss (.tmp 55) (.tmp 54)⟩])
 (.seq (.cond (.tmp 56)
 .skip
 (.exit 0))
 (.seq (.block 1 (.seq (.ops [⟨some 57, none, .mov (.tmp 55)⟩,
 ⟨some 58, none, .iad 1 (.tmp 53) (.tmp 55)⟩,
 ⟨some 59, none, .ld1 (.tmp 58)⟩,
 ⟨some 11, none, .mov (.tmp 57)⟩,
 ⟨some 12, none, .mov (.tmp 59)⟩])
 (.seq (.ops [⟨some 60, none, .mov (.tmp 12)⟩,
 ⟨some 61, none, .agg [(.slice none 0 0), (.slice none 0 0), (.int .i64 0), (.int .i64 0), (.int .i64 0), (.int .i64 0)] [(0, 1, (.tmp 60))]⟩,
 ⟨some 13, none, .newz [(.slice none 0 0), (.slice none 0 0), (.int .i64 0), (.int .i64 0), (.int .i64 0), (.int .i64 0)]⟩,
 ⟨none, none, .st 6 (.tmp 13) (.tmp 61)⟩])
 (.seq (.seq (.ops [⟨some 63, none, .mov (.tmp 12)⟩,
 ⟨some 64, none, .call (.func 25) [(.tmp 63)]⟩,
 ⟨some 62, none, .mov (.tmp 64)⟩,
 ⟨some 65, none, .ext (.tmp 62) 0⟩,
 ⟨some 66, none, .ext (.tmp 62) 1⟩,
 ⟨some 14, none, .newz [(.slice none 0 0), (.slice none 0 0)]⟩,
 ⟨none, none, .st 2 (.tmp 14) (.tmp 65)⟩,
 ⟨some 15, none, .mov (.tmp 66)⟩])
 (.seq (.ops [⟨some 67, none, .mov (.tmp 15)⟩,
 ⟨some 68, none, .bin .eql (.tmp 67) (.const (.int .i64 0))⟩])
 (.cond (.tmp 68)
 (.seq (.ops [⟨some 69, none, .fad (.tmp 14) 0⟩,
 ⟨some 70, none, .ld1 (.tmp 69)⟩,
 ⟨some 71, none, .fad (.tmp 13) 1⟩,
 ⟨none, none, .st 1 (.tmp 71) (.tmp 70)⟩])
 (.seq (.ops [⟨some 72, none, .fad (.tmp 14) 1⟩,
 ⟨some 73, none, .ld1 (.tmp 72)⟩,
 ⟨some 74, none, .lnl (.tmp 73)⟩,
 ⟨some 75, none, .mov (.const (.int .i64 0))⟩])
 (.block 2 (.loop (.seq (.ops [⟨some 76, none, .bin .lss (.tmp 75) (.tmp 74)⟩])
 (.seq (.cond (.tmp 76)
 .skip
 (.exit 2))
 (.seq (.block 3 (.seq (.ops [⟨some 77, none, .mov (.tmp 75)⟩,
 ⟨some 78, none, .iad 1 (.tmp 73) (.tmp 75)⟩,
 ⟨some 79, none, .ld1 (.tmp 78)⟩,
 ⟨some 16, none, .mov (.tmp 77)⟩,
 ⟨some 17, none, .mov (.tmp 79)⟩])
 (.draw [⟨some 80, none, .fad (.tmp 13) 1⟩,
 ⟨some 81, none, .ld1 (.tmp 80)⟩,
 ⟨some 82, none, .mov (.tmp 16)⟩,
 ⟨some 83, none, .fad (.tmp 13) 1⟩,
 ⟨some 84, none, .ld1 (.tmp 83)⟩,
 ⟨some 85, none, .mov (.tmp 16)⟩,
 ⟨some 86, none, .mov (.tmp 0)⟩,
 ⟨some 87, none, .mov (.tmp 17)⟩,
 ⟨some 88, none, .iad 7 (.tmp 86) (.tmp 87)⟩,
 ⟨some 89, none, .fad (.tmp 88) 4⟩,
 ⟨some 90, none, .ld 2 (.tmp 89)⟩,
 ⟨some 91, none, .mov (.tmp 0)⟩,
 ⟨some 92, none, .mov (.tmp 17)⟩,
 ⟨some 93, none, .iad 7 (.tmp 91) (.tmp 92)⟩,
 ⟨some 94, none, .fad (.tmp 93) 6⟩,
 ⟨some 95, none, .ld1 (.tmp 94)⟩,
 ⟨some 96, none, .iad 7 (.tmp 81) (.tmp 82)⟩,
 ⟨some 97, none, .fad (.tmp 96) 4⟩,
 ⟨none, none, .st 2 (.tmp 97) (.tmp 90)⟩,
 ⟨some 98, none, .iad 7 (.tmp 84) (.tmp 85)⟩,
 ⟨some 99, none, .fad (.tmp 98) 6⟩,
 ⟨none, none, .st 1 (.tmp 99) (.tmp 95)⟩] [(0, 2), (1, 2), (0, 3), (1, 3), (2, 3), (0, 4), (1, 4), (2, 4), (0, 5), (1, 5), (2, 5), (3, 5), (4, 5), (0, 6), (1, 6), (2, 6), (3, 6), (4, 6), (5, 6), (0, 7), (1, 7), (2, 7), (3, 7), (4, 7), (5, 7), (6, 7), (0, 8), (1, 8), (2, 8), (3, 8), (4, 8), (5, 8), (0, 9), (1, 9), (2, 9), (3, 9), (4, 9), (5, 9), (0, 10), (1, 10), (2, 10), (3, 10), (4, 10), (5, 10), (0, 11), (1, 11), (2, 11), (3, 11), (4, 11), (5, 11), (6, 11), (7, 11), (8, 11), (9, 11), (10, 11), (0, 12), (1, 12), (2, 12), (3, 12), (4, 12), (5, 12), (6, 12), (7, 12), (8, 12), (9, 12), (10, 12), (11, 12), (0, 13), (1, 13), (2, 13), (3, 13), (4, 13), (5, 13), (6, 13), (7, 13), (8, 13), (9, 13), (10, 13), (0, 14), (1, 14), (2, 14), (3, 14), (4, 14), (5, 14), (6, 14), (7, 14), (8, 14), (9, 14), (10, 14), (0, 15), (1, 15), (2, 15), (3, 15), (4, 15), (5, 15), (6, 15), (7, 15), (8, 15), (9, 15), (10, 15), (3, 16), (4, 16), (5, 16), (3, 17), (4, 17), (5, 17), (3, 18), (4, 18), (5, 18)])))
 (.ops [⟨some 100, none, .bin .add (.tmp 75) (.const (.int .i64 1))⟩,
 ⟨some 75, none, .mov (.tmp 100)⟩]))))))))
 .skip)))
 (.seq (.seq (.ops [⟨some 101, none, .mov (.tmp 11)⟩,
 ⟨some 102, none, .bin .gtr (.tmp 101) (.const (.int .i64 0))⟩])
 (.cond (.tmp 102)
 (.seq (.ops [⟨some 103, none, .mov (.tmp 8)⟩,
 ⟨some 104, none, .mov (.tmp 11)⟩,
 ⟨some 105, none, .bin .sub (.tmp 104) (.const (.int .i64 1))⟩,
 ⟨some 106, none, .iad 1 (.tmp 103) (.tmp 105)⟩,
 ⟨some 107, none, .ld1 (.tmp 106)⟩,
 ⟨some 18, none, .mov (.tmp 107)⟩])
 (.seq (.ops [⟨some 109, none, .mov (.tmp 18)⟩,
 ⟨some 110, none, .call (.func 26) [(.tmp 109)]⟩,
 ⟨some 108, none, .mov (.tmp 110)⟩,
 ⟨some 111, none, .ext (.tmp 108) 0⟩,
 ⟨some 112, none, .ext (.tmp 108) 1⟩,
 ⟨some 113, none, .ext (.tmp 108) 2⟩,
 ⟨some 114, none, .ext (.tmp 108) 3⟩,
 ⟨some 19, none, .mov (.tmp 111)⟩,
 ⟨some 20, none, .mov (.tmp 112)⟩,
 ⟨some 21, none, .mov (.tmp 113)⟩,
 ⟨some 22, none, .mov (.tmp 114)⟩])
 (.seq (.seq (.ops [⟨some 115, none, .mov (.tmp 22)⟩,
 ⟨some 116, none, .bin .neq (.tmp 115) (.const (.int .i64 0))⟩])
 (.cond (.tmp 116)
 (.seq (.ops [⟨some 117, none, .mov (.tmp 22)⟩,
 ⟨some 4, none, .mov (.const (.pointer none))⟩,
 ⟨some 5, none, .mov (.const (.int .i64 0))⟩,
 ⟨some 6, none, .mov (.tmp 117)⟩])
 .ret)
 .skip))
 (.ops [⟨some 118, none, .mov (.tmp 21)⟩,
 ⟨some 119, none, .mov (.tmp 10)⟩,
 ⟨some 120, none, .mov (.tmp 18)⟩,
 ⟨some 121, none, .mov (.tmp 20)⟩,
 ⟨some 122, none, .iad 6 (.tmp 120) (.tmp 121)⟩,
 ⟨some 123, none, .ld 6 (.tmp 122)⟩,
 ⟨some 124, none, .call (.tmp 119) [(.tmp 123)]⟩,
 ⟨some 125, none, .fad (.tmp 13) 2⟩,
 ⟨none, none, .st 1 (.tmp 125) (.tmp 118)⟩,
 ⟨some 126, none, .fad (.tmp 13) 3⟩,
 ⟨none, none, .st 3 (.tmp 126) (.tmp 124)⟩]))))
 .skip))
 (.draw [⟨some 127, none, .mov (.tmp 4)⟩,
 ⟨some 128, none, .mov (.tmp 4)⟩,
 ⟨some 129, none, .nilck (.tmp 128)⟩,
 ⟨some 130, none, .fad (.tmp 129) 1⟩,
 ⟨some 131, none, .ld1 (.tmp 130)⟩,
 ⟨some 132, none, .ld 6 (.tmp 13)⟩,
 ⟨some 133, none, .lits [(.slice none 0 0), (.slice none 0 0), (.int .i64 0), (.int .i64 0), (.int .i64 0), (.int .i64 0)] 1 [(0, 6, (.tmp 132))]⟩,
 ⟨some 134, none, .app 6 80 none (.tmp 131) (.tmp 133)⟩,
 ⟨some 135, none, .nilck (.tmp 127)⟩,
 ⟨some 136, none, .fad (.tmp 135) 1⟩,
 ⟨none, none, .st 1 (.tmp 136) (.tmp 134)⟩] [(0, 1), (0, 2), (0, 3), (0, 4), (0, 5), (1, 5), (2, 5), (3, 5), (4, 5), (0, 6), (1, 6), (2, 6), (3, 6), (4, 6), (0, 7)]))))))
 (.ops [⟨some 137, none, .bin .add (.tmp 55) (.const (.int .i64 1))⟩,
 ⟨some 55, none, .mov (.tmp 137)⟩])))))))
 (.seq (.seq (.ops [⟨some 138, none, .mov (.tmp 9)⟩])
 (.block 4 (.seq (.ops [⟨some 140, none, .bin .eql (.tmp 138) (.const (.int .i64 1))⟩,
 ⟨some 139, none, .mov (.tmp 140)⟩])
 (.cond (.tmp 139)
 (.ops [⟨some 141, none, .mov (.tmp 4)⟩,
 ⟨some 142, none, .nilck (.tmp 141)⟩,
 ⟨some 143, none, .fad (.tmp 142) 2⟩,
 ⟨none, none, .st 1 (.tmp 143) (.const (.int .i64 0))⟩])
 (.seq (.ops [⟨some 145, none, .bin .eql (.tmp 138) (.const (.int .i64 3))⟩,
 ⟨some 144, none, .mov (.tmp 145)⟩])
 (.cond (.tmp 144)
 (.seq (.ops [⟨some 146, none, .mov (.tmp 8)⟩,
 ⟨some 147, none, .mov (.tmp 8)⟩,
 ⟨some 148, none, .lnl (.tmp 147)⟩,
 ⟨some 149, none, .bin .sub (.tmp 148) (.const (.int .i64 1))⟩,
 ⟨some 150, none, .iad 1 (.tmp 146) (.tmp 149)⟩,
 ⟨some 151, none, .ld1 (.tmp 150)⟩,
 ⟨some 23, none, .mov (.tmp 151)⟩])
 (.seq (.ops [⟨some 153, none, .mov (.tmp 23)⟩,
 ⟨some 154, none, .call (.func 26) [(.tmp 153)]⟩,
 ⟨some 152, none, .mov (.tmp 154)⟩,
 ⟨some 155, none, .ext (.tmp 152) 0⟩,
 ⟨some 156, none, .ext (.tmp 152) 1⟩,
 ⟨some 157, none, .ext (.tmp 152) 2⟩,
 ⟨some 158, none, .ext (.tmp 152) 3⟩,
 ⟨some 24, none, .mov (.tmp 155)⟩,
 ⟨some 25, none, .mov (.tmp 156)⟩,
 ⟨some 26, none, .mov (.tmp 157)⟩,
 ⟨some 27, none, .mov (.tmp 158)⟩])
 (.ops [⟨some 159, none, .mov (.tmp 4)⟩,
 ⟨some 160, none, .mov (.tmp 4)⟩,
 ⟨some 161, none, .mov (.tmp 27)⟩,
 ⟨some 162, none, .mov (.tmp 10)⟩,
 ⟨some 163, none, .mov (.tmp 23)⟩,
 ⟨some 164, none, .mov (.tmp 25)⟩,
 ⟨some 165, none, .iad 6 (.tmp 163) (.tmp 164)⟩,
 ⟨some 166, none, .ld 6 (.tmp 165)⟩,
 ⟨some 167, none, .call (.tmp 162) [(.tmp 166)]⟩,
 ⟨some 168, none, .nilck (.tmp 159)⟩,
 ⟨some 169, none, .fad (.tmp 168) 2⟩,
 ⟨none, none, .st 1 (.tmp 169) (.tmp 161)⟩,
 ⟨some 170, none, .nilck (.tmp 160)⟩,
 ⟨some 171, none, .fad (.tmp 170) 3⟩,
 ⟨none, none, .st 3 (.tmp 171) (.tmp 167)⟩])))
 .skip))))))
 (.seq (.ops [⟨some 172, none, .mov (.tmp 4)⟩,
 ⟨some 4, none, .mov (.tmp 172)⟩,
 ⟨some 5, none, .mov (.const (.int .i64 0))⟩,
 ⟨some 6, none, .mov (.const (.int .i64 0))⟩])
 .ret))))))))))⟩
theorem ok8 : compF Tryz.prog Tryz.f8 = some c8 := by kernel_rfl
def c9 : CF := ⟨19, [.tmp 4],
 (.seq (.ops [⟨some 3, none, .box (.tmp 1)⟩,
 ⟨some 4, none, .mov (.const (.slice none 0 0))⟩])
 (.seq (.ops [⟨some 5, none, .newz [(.slice none 0 0)]⟩])
 (.seq (.seq (.ops [⟨some 8, none, .mov (.tmp 0)⟩])
 (.block 0 (.rangeF (.tmp 8) [9, 10]
 (.seq (.ops [⟨some 6, none, .mov (.tmp 9)⟩])
 (.ops [⟨some 7, none, .newz [(.slice none 0 0), (.slice none 0 0), (.int .i64 0), (.int .i64 0), (.int .i64 0), (.int .i64 0)]⟩,
 ⟨none, none, .st 6 (.tmp 7) (.tmp 10)⟩]))
 (.block 1 (.draw [⟨some 11, none, .ld1 (.tmp 5)⟩,
 ⟨some 12, none, .ld1 (.tmp 3)⟩,
 ⟨some 13, none, .mov (.tmp 6)⟩,
 ⟨some 14, none, .ld 6 (.tmp 7)⟩,
 ⟨some 15, none, .call (.tmp 12) [(.tmp 13), (.tmp 14)]⟩,
 ⟨some 16, none, .lits [(.string ⟨#[]⟩)] 1 [(0, 1, (.tmp 15))]⟩,
 ⟨some 17, none, .app 1 16 none (.tmp 11) (.tmp 16)⟩,
 ⟨none, none, .st 1 (.tmp 5) (.tmp 17)⟩] [(0, 1), (0, 2), (1, 2), (0, 3), (1, 3), (2, 3), (0, 4), (0, 5)])))))
 (.seq (.ops [⟨some 18, none, .ld1 (.tmp 5)⟩,
 ⟨some 4, none, .mov (.tmp 18)⟩])
 .ret))))⟩
theorem ok9 : compF Tryz.prog Tryz.f9 = some c9 := by kernel_rfl
def c10 : CF := ⟨4, [.tmp 2],
 (.seq (.ops [⟨some 1, none, .box (.tmp 0)⟩,
 ⟨some 2, none, .mov (.const .nilFunc)⟩])
 (.seq (.ops [⟨some 3, none, .fn 27 [] [(.tmp 1)]⟩,
 ⟨some 2, none, .mov (.tmp 3)⟩])
 .ret))⟩
theorem ok10 : compF Tryz.prog Tryz.f10 = some c10 := by kernel_rfl
def c11 : CF := ⟨18, [.tmp 4],
 (.seq (.ops [⟨some 3, none, .box (.tmp 1)⟩,
 ⟨some 4, none, .mov (.const (.string ⟨#[]⟩))⟩])
 (.seq (.ops [⟨some 8, none, .fad (.tmp 3) 1⟩,
 ⟨some 9, none, .ld1 (.tmp 8)⟩,
 ⟨some 10, none, .call (.func 12) [(.tmp 9)]⟩,
 ⟨some 7, none, .mov (.tmp 10)⟩,
 ⟨some 11, none, .ext (.tmp 7) 0⟩,
 ⟨some 12, none, .ext (.tmp 7) 1⟩,
 ⟨some 5, none, .mov (.tmp 11)⟩,
 ⟨some 6, none, .mov (.tmp 12)⟩])
 (.seq (.ops [⟨some 13, none, .mov (.tmp 0)⟩,
 ⟨some 14, none, .call (.func 13) [(.tmp 13)]⟩,
 ⟨some 15, none, .bin .add (.tmp 14) (.const (.string ⟨#[58, 32]⟩))⟩,
 ⟨some 16, none, .mov (.tmp 5)⟩,
 ⟨some 17, none, .bin .add (.tmp 15) (.tmp 16)⟩,
 ⟨some 4, none, .mov (.tmp 17)⟩])
 .ret)))⟩
theorem ok11 : compF Tryz.prog Tryz.f11 = some c11 := by kernel_rfl
def c12 : CF := ⟨27, [.tmp 2, .tmp 3],
 (.seq (.ops [⟨some 2, none, .mov (.const (.string ⟨#[]⟩))⟩,
 ⟨some 3, none, .mov (.const (.int .i64 0))⟩])
 (.seq (.ops [⟨some 9, none, .mov (.tmp 0)⟩,
 ⟨some 10, none, .call (.func 28) [(.tmp 9), (.const (.int .i64 0))]⟩,
 ⟨some 8, none, .mov (.tmp 10)⟩,
 ⟨some 11, none, .ext (.tmp 8) 0⟩,
 ⟨some 12, none, .ext (.tmp 8) 1⟩,
 ⟨some 4, none, .mov (.tmp 11)⟩,
 ⟨some 5, none, .mov (.tmp 12)⟩])
 (.seq (.seq (.ops [⟨some 13, none, .mov (.tmp 5)⟩,
 ⟨some 14, none, .bin .neq (.tmp 13) (.const (.int .i64 0))⟩])
 (.cond (.tmp 14)
 (.seq (.ops [⟨some 15, none, .mov (.tmp 5)⟩,
 ⟨some 2, none, .mov (.const (.string ⟨#[]⟩))⟩,
 ⟨some 3, none, .mov (.tmp 15)⟩])
 .ret)
 .skip))
 (.seq (.ops [⟨some 16, none, .mov (.tmp 4)⟩,
 ⟨some 17, none, .agg [(.pointer none), (.bool false), (.slice none 0 0)] [(0, 1, (.tmp 16)), (1, 1, (.const (.bool true)))]⟩,
 ⟨some 18, none, .box (.tmp 17)⟩,
 ⟨some 6, none, .mov (.tmp 18)⟩])
 (.seq (.ops [⟨some 19, none, .mov (.tmp 6)⟩,
 ⟨some 20, none, .call (.func 29) [(.tmp 19), (.const (.int .i64 0))]⟩])
 (.seq (.ops [⟨some 7, none, .newt 93 [(.pointer none), (.slice none 0 0)]⟩])
 (.seq (.ops [⟨some 21, none, .mov (.tmp 6)⟩,
 ⟨some 22, none, .nilck (.tmp 21)⟩,
 ⟨some 23, none, .fad (.tmp 22) 2⟩,
 ⟨some 24, none, .ld1 (.tmp 23)⟩,
 ⟨some 25, none, .call (.func 30) [(.tmp 7), (.tmp 24)]⟩])
 (.seq (.ops [⟨some 26, none, .call (.func 31) [(.tmp 7)]⟩,
 ⟨some 2, none, .mov (.tmp 26)⟩,
 ⟨some 3, none, .mov (.const (.int .i64 0))⟩])
 .ret))))))))⟩
theorem ok12 : compF Tryz.prog Tryz.f12 = some c12 := by kernel_rfl
def c13 : CF := ⟨5, [.tmp 2],
 (.seq (.ops [⟨some 2, none, .mov (.const (.string ⟨#[]⟩))⟩])
 (.seq (.ops [⟨some 3, none, .mov (.tmp 0)⟩,
 ⟨some 4, none, .call (.func 32) [(.tmp 3)]⟩,
 ⟨some 2, none, .mov (.tmp 4)⟩])
 .ret))⟩
theorem ok13 : compF Tryz.prog Tryz.f13 = some c13 := by kernel_rfl
def c14 : CF := ⟨25, [.tmp 4],
 (.seq (.ops [⟨some 2, none, .box (.tmp 0)⟩,
 ⟨some 4, none, .mov (.const (.slice none 0 0))⟩])
 (.seq (.ops [⟨some 7, none, .mov (.tmp 1)⟩,
 ⟨some 8, none, .lnl (.tmp 7)⟩,
 ⟨some 9, none, .fad (.tmp 2) 1⟩,
 ⟨none, none, .st 1 (.tmp 9) (.tmp 8)⟩])
 (.seq (.ops [⟨some 10, none, .ld 7 (.tmp 2)⟩,
 ⟨some 11, none, .lits [(.int .i64 0), (.int .i64 0), (.int .i64 0), (.string ⟨#[]⟩), (.int .i64 0), (.int .i64 0), (.int .i64 0)] 1 [(0, 7, (.tmp 10))]⟩,
 ⟨some 5, none, .mov (.tmp 11)⟩])
 (.seq (.seq (.ops [⟨some 6, none, .mov (.const (.int .i64 0))⟩])
 (.block 0 (.loop (.seq (.seq (.ops [⟨some 12, none, .mov (.tmp 6)⟩,
 ⟨some 13, none, .mov (.tmp 1)⟩,
 ⟨some 14, none, .lnl (.tmp 13)⟩,
 ⟨some 15, none, .bin .lss (.tmp 12) (.tmp 14)⟩])
 (.cond (.tmp 15)
 .skip
 (.exit 0)))
 (.seq (.block 1 (.ops [⟨some 18, none, .mov (.tmp 5)⟩,
 ⟨some 19, none, .mov (.tmp 1)⟩,
 ⟨some 20, none, .mov (.tmp 6)⟩,
 ⟨some 21, none, .iad 1 (.tmp 19) (.tmp 20)⟩,
 ⟨some 22, none, .ld1 (.tmp 21)⟩,
 ⟨some 23, none, .app 7 64 none (.tmp 18) (.tmp 22)⟩,
 ⟨some 5, none, .mov (.tmp 23)⟩]))
 (.ops [⟨some 16, none, .mov (.tmp 6)⟩,
 ⟨some 17, none, .bin .add (.tmp 16) (.const (.int .i64 1))⟩,
 ⟨some 6, none, .mov (.tmp 17)⟩]))))))
 (.seq (.ops [⟨some 24, none, .mov (.tmp 5)⟩,
 ⟨some 4, none, .mov (.tmp 24)⟩])
 .ret)))))⟩
theorem ok14 : compF Tryz.prog Tryz.f14 = some c14 := by kernel_rfl
def c15 : CF := ⟨9, [.tmp 4],
 (.seq (.ops [⟨some 4, none, .mov (.const (.slice none 0 0))⟩])
 (.seq (.ops [⟨some 5, none, .mov (.tmp 0)⟩,
 ⟨some 6, none, .agg [(.int .i64 0), (.int .i64 0), (.int .i64 0), (.string ⟨#[]⟩), (.int .i64 0), (.int .i64 0), (.int .i64 0)] [(0, 1, (.tmp 5))]⟩,
 ⟨some 7, none, .mov (.tmp 1)⟩,
 ⟨some 8, none, .call (.func 14) [(.tmp 6), (.tmp 7)]⟩,
 ⟨some 4, none, .mov (.tmp 8)⟩])
 .ret))⟩
theorem ok15 : compF Tryz.prog Tryz.f15 = some c15 := by kernel_rfl
def c16 : CF := ⟨6, [.tmp 2],
 (.seq (.ops [⟨some 2, none, .mov (.const (.slice none 0 0))⟩])
 (.seq (.ops [⟨some 3, none, .mov (.tmp 0)⟩,
 ⟨some 4, none, .agg [(.int .i64 0), (.int .i64 0), (.int .i64 0), (.string ⟨#[]⟩), (.int .i64 0), (.int .i64 0), (.int .i64 0)] [(0, 1, (.const (.int .i64 9))), (2, 1, (.tmp 3)), (3, 1, (.const (.string ⟨#[120]⟩)))]⟩,
 ⟨some 5, none, .call (.func 14) [(.tmp 4), (.const (.slice none 0 0))]⟩,
 ⟨some 2, none, .mov (.tmp 5)⟩])
 .ret))⟩
theorem ok16 : compF Tryz.prog Tryz.f16 = some c16 := by kernel_rfl
def c17 : CF := ⟨6, [.tmp 2],
 (.seq (.ops [⟨some 2, none, .mov (.const (.slice none 0 0))⟩])
 (.seq (.ops [⟨some 3, none, .mov (.tmp 0)⟩,
 ⟨some 4, none, .agg [(.int .i64 0), (.int .i64 0), (.int .i64 0), (.string ⟨#[]⟩), (.int .i64 0), (.int .i64 0), (.int .i64 0)] [(0, 1, (.const (.int .i64 1))), (2, 1, (.tmp 3))]⟩,
 ⟨some 5, none, .call (.func 14) [(.tmp 4), (.const (.slice none 0 0))]⟩,
 ⟨some 2, none, .mov (.tmp 5)⟩])
 .ret))⟩
theorem ok17 : compF Tryz.prog Tryz.f17 = some c17 := by kernel_rfl
def c18 : CF := ⟨3, [.tmp 0],
 (.seq (.ops [⟨some 0, none, .mov (.const (.slice none 0 0))⟩])
 (.seq (.ops [⟨some 1, none, .agg [(.int .i64 0), (.int .i64 0), (.int .i64 0), (.string ⟨#[]⟩), (.int .i64 0), (.int .i64 0), (.int .i64 0)] [(0, 1, (.const (.int .i64 2)))]⟩,
 ⟨some 2, none, .call (.func 14) [(.tmp 1), (.const (.slice none 0 0))]⟩,
 ⟨some 0, none, .mov (.tmp 2)⟩])
 .ret))⟩
theorem ok18 : compF Tryz.prog Tryz.f18 = some c18 := by kernel_rfl
def c19 : CF := ⟨6, [.tmp 2],
 (.seq (.ops [⟨some 2, none, .mov (.const (.slice none 0 0))⟩])
 (.seq (.ops [⟨some 3, none, .mov (.tmp 0)⟩,
 ⟨some 4, none, .agg [(.int .i64 0), (.int .i64 0), (.int .i64 0), (.string ⟨#[]⟩), (.int .i64 0), (.int .i64 0), (.int .i64 0)] [(0, 1, (.const (.int .i64 6))), (2, 1, (.tmp 3)), (3, 1, (.const (.string ⟨#[120]⟩)))]⟩,
 ⟨some 5, none, .call (.func 14) [(.tmp 4), (.const (.slice none 0 0))]⟩,
 ⟨some 2, none, .mov (.tmp 5)⟩])
 .ret))⟩
theorem ok19 : compF Tryz.prog Tryz.f19 = some c19 := by kernel_rfl
def c20 : CF := ⟨19, [.tmp 4],
 (.seq (.ops [⟨some 3, none, .box (.tmp 1)⟩,
 ⟨some 4, none, .mov (.const (.slice none 0 0))⟩])
 (.seq (.ops [⟨some 5, none, .newz [(.slice none 0 0)]⟩])
 (.seq (.seq (.ops [⟨some 8, none, .mov (.tmp 0)⟩])
 (.block 0 (.rangeF (.tmp 8) [9, 10]
 (.seq (.ops [⟨some 6, none, .mov (.tmp 9)⟩])
 (.ops [⟨some 7, none, .newz [(.slice none 0 0), (.slice none 0 0), (.int .i64 0), (.int .i64 0), (.int .i64 0), (.int .i64 0)]⟩,
 ⟨none, none, .st 6 (.tmp 7) (.tmp 10)⟩]))
 (.block 1 (.draw [⟨some 11, none, .ld1 (.tmp 5)⟩,
 ⟨some 12, none, .ld1 (.tmp 3)⟩,
 ⟨some 13, none, .mov (.tmp 6)⟩,
 ⟨some 14, none, .ld 6 (.tmp 7)⟩,
 ⟨some 15, none, .call (.tmp 12) [(.tmp 13), (.tmp 14)]⟩,
 ⟨some 16, none, .lits [(.int .i64 0), (.slice none 0 0)] 1 [(0, 2, (.tmp 15))]⟩,
 ⟨some 17, none, .app 2 32 none (.tmp 11) (.tmp 16)⟩,
 ⟨none, none, .st 1 (.tmp 5) (.tmp 17)⟩] [(0, 1), (0, 2), (1, 2), (0, 3), (1, 3), (2, 3), (0, 4), (0, 5)])))))
 (.seq (.ops [⟨some 18, none, .ld1 (.tmp 5)⟩,
 ⟨some 4, none, .mov (.tmp 18)⟩])
 .ret))))⟩
theorem ok20 : compF Tryz.prog Tryz.f20 = some c20 := by kernel_rfl
def c21 : CF := ⟨9, [.cells 4 2],
 (.seq (.ops [⟨some 3, none, .box (.tmp 1)⟩,
 ⟨some 4, none, .newz [(.int .i64 0), (.slice none 0 0)]⟩])
 (.seq (.ops [⟨some 5, none, .mov (.tmp 0)⟩,
 ⟨some 6, none, .fad (.tmp 3) 1⟩,
 ⟨some 7, none, .ld1 (.tmp 6)⟩,
 ⟨some 8, none, .agg [(.int .i64 0), (.slice none 0 0)] [(0, 1, (.tmp 5)), (1, 1, (.tmp 7))]⟩,
 ⟨none, none, .st 2 (.tmp 4) (.tmp 8)⟩])
 .ret))⟩
theorem ok21 : compF Tryz.prog Tryz.f21 = some c21 := by kernel_rfl
def c22 : CF := ⟨39, [.tmp 2, .tmp 3, .tmp 4],
 (.seq (.ops [⟨some 2, none, .mov (.const (.slice none 0 0))⟩,
 ⟨some 3, none, .mov (.const (.int .i64 0))⟩,
 ⟨some 4, none, .mov (.const (.int .i64 0))⟩])
 (.seq (.seq (.ops [⟨some 11, none, .mov (.tmp 0)⟩,
 ⟨some 12, none, .call (.func 33) [(.tmp 11)]⟩,
 ⟨some 10, none, .mov (.tmp 12)⟩,
 ⟨some 13, none, .ext (.tmp 10) 0⟩,
 ⟨some 14, none, .ext (.tmp 10) 1⟩,
 ⟨some 5, none, .mov (.tmp 13)⟩,
 ⟨some 6, none, .mov (.tmp 14)⟩])
 (.seq (.ops [⟨some 15, none, .mov (.tmp 6)⟩,
 ⟨some 16, none, .bin .neq (.tmp 15) (.const (.int .i64 0))⟩])
 (.cond (.tmp 16)
 (.seq (.ops [⟨some 17, none, .mov (.tmp 5)⟩,
 ⟨some 18, none, .mov (.tmp 6)⟩,
 ⟨some 2, none, .mov (.const (.slice none 0 0))⟩,
 ⟨some 3, none, .mov (.tmp 17)⟩,
 ⟨some 4, none, .mov (.tmp 18)⟩])
 .ret)
 .skip)))
 (.seq (.ops [⟨some 19, none, .mov (.tmp 0)⟩,
 ⟨some 20, none, .call (.func 34) [(.tmp 19)]⟩,
 ⟨some 21, none, .agg [(.pointer none), (.bool false), .nilFunc, .nilFunc, .nilFunc, .nilFunc, .nilFunc, .nilFunc, .nilFunc, .nilFunc, .nilFunc, .nilFunc, .nilFunc, .nilFunc, .nilFunc, .nilFunc, .nilFunc, .nilFunc, .nilFunc, .nilFunc, .nilFunc, .nilFunc, .nilFunc, .nilFunc, .nilFunc, .nilFunc, .nilFunc] [(0, 1, (.tmp 20))]⟩,
 ⟨some 22, none, .box (.tmp 21)⟩,
 ⟨some 7, none, .mov (.tmp 22)⟩])
 (.seq (.ops [⟨some 23, none, .mov (.tmp 7)⟩,
 ⟨some 24, none, .call (.func 35) [(.tmp 23)]⟩])
 (.seq (.ops [⟨some 25, none, .mov (.tmp 7)⟩,
 ⟨some 26, none, .call (.func 36) [(.tmp 25), (.const (.int .i64 0)), (.const (.slice none 0 0))]⟩,
 ⟨some 2, none, .mov (.tmp 26)⟩])
 (.seq (.seq (.ops [⟨some 27, none, .mov (.tmp 7)⟩,
 ⟨some 28, none, .nilck (.tmp 27)⟩,
 ⟨some 29, none, .fad (.tmp 28) 1⟩,
 ⟨some 30, none, .ld1 (.tmp 29)⟩])
 (.cond (.tmp 30)
 (.seq (.ops [⟨some 2, none, .mov (.const (.slice none 0 0))⟩,
 ⟨some 3, none, .mov (.const (.int .i64 0))⟩,
 ⟨some 4, none, .mov (.const (.int .i64 3))⟩])
 .ret)
 .skip))
 (.seq (.seq (.ops [⟨some 32, none, .mov (.tmp 2)⟩,
 ⟨some 33, none, .call (.func 37) [(.tmp 32), (.const (.bool false))]⟩,
 ⟨some 31, none, .mov (.tmp 33)⟩,
 ⟨some 34, none, .ext (.tmp 31) 0⟩,
 ⟨some 35, none, .ext (.tmp 31) 1⟩,
 ⟨some 8, none, .mov (.tmp 34)⟩,
 ⟨some 9, none, .mov (.tmp 35)⟩])
 (.seq (.ops [⟨some 36, none, .mov (.tmp 9)⟩,
 ⟨some 37, none, .bin .neq (.tmp 36) (.const (.int .i64 0))⟩])
 (.cond (.tmp 37)
 (.seq (.ops [⟨some 2, none, .mov (.const (.slice none 0 0))⟩,
 ⟨some 3, none, .mov (.const (.int .i64 0))⟩,
 ⟨some 4, none, .mov (.const (.int .i64 3))⟩])
 .ret)
 .skip)))
 (.seq (.ops [⟨some 38, none, .mov (.tmp 2)⟩,
 ⟨some 2, none, .mov (.tmp 38)⟩,
 ⟨some 3, none, .mov (.const (.int .i64 0))⟩,
 ⟨some 4, none, .mov (.const (.int .i64 0))⟩])
 .ret))))))))⟩
theorem ok22 : compF Tryz.prog Tryz.f22 = some c22 := by kernel_rfl
def c23 : CF := ⟨35, [.cell1 4, .cell1 5, .cell1 6],
 (.seq (.ops [⟨some 4, none, .newz [(.slice none 0 0)]⟩,
 ⟨some 5, none, .newz [(.int .i64 0)]⟩,
 ⟨some 6, none, .newz [(.int .i64 0)]⟩])
 (.seq (.seq (.ops [⟨some 11, none, .mov (.tmp 0)⟩,
 ⟨some 12, none, .mov (.tmp 1)⟩,
 ⟨some 13, none, .call (.func 38) [(.tmp 11), (.tmp 12)]⟩,
 ⟨some 7, none, .mov (.tmp 13)⟩])
 (.seq (.ops [⟨some 14, none, .mov (.tmp 7)⟩,
 ⟨some 15, none, .bin .neq (.tmp 14) (.const (.int .i64 0))⟩])
 (.cond (.tmp 15)
 (.seq (.ops [⟨some 16, none, .mov (.tmp 7)⟩,
 ⟨none, none, .st 1 (.tmp 4) (.const (.slice none 0 0))⟩,
 ⟨none, none, .st 1 (.tmp 5) (.const (.int .i64 0))⟩,
 ⟨none, none, .st 1 (.tmp 6) (.tmp 16)⟩])
 .ret)
 .skip)))
 (.seq (.ops [⟨some 8, none, .newz [(.int .i64 0), (.int .i64 0), (.int .i64 0)]⟩])
 (.seq (.ops [⟨some 9, none, .newz [(.int .i64 0)]⟩,
 ⟨none, none, .st 1 (.tmp 9) (.const (.int .i64 0))⟩])
 (.seq (.seq (.ops [⟨some 17, none, .mov (.tmp 0)⟩,
 ⟨some 18, none, .mov (.tmp 1)⟩,
 ⟨some 19, none, .call (.func 39) [(.tmp 17), (.tmp 18), (.tmp 8)]⟩])
 (.block 0 (.rangeF (.tmp 19) [20]
 (.ops [⟨some 10, none, .mov (.tmp 20)⟩])
 (.block 1 (.seq (.seq (.ops [⟨some 21, none, .ld1 (.tmp 9)⟩,
 ⟨some 22, none, .mov (.tmp 10)⟩,
 ⟨some 23, none, .lnl (.tmp 22)⟩,
 ⟨some 24, none, .bin .add (.tmp 21) (.tmp 23)⟩,
 ⟨none, none, .st 1 (.tmp 9) (.tmp 24)⟩])
 (.seq (.ops [⟨some 25, none, .ld1 (.tmp 9)⟩,
 ⟨some 26, none, .bin .gtr (.tmp 25) (.const (.int .i64 100000))⟩])
 (.cond (.tmp 26)
 (.seq (.ops [⟨none, none, .st 1 (.tmp 4) (.const (.slice none 0 0))⟩,
 ⟨none, none, .st 1 (.tmp 5) (.const (.int .i64 0))⟩,
 ⟨none, none, .st 1 (.tmp 6) (.const (.int .i64 3))⟩])
 .ret)
 .skip)))
 (.draw [⟨some 27, none, .ld1 (.tmp 4)⟩,
 ⟨some 28, none, .mov (.tmp 10)⟩,
 ⟨some 29, none, .call (.func 40) [(.tmp 28)]⟩,
 ⟨some 30, none, .lits [(.slice none 0 0)] 1 [(0, 1, (.tmp 29))]⟩,
 ⟨some 31, none, .app 1 24 none (.tmp 27) (.tmp 30)⟩,
 ⟨none, none, .st 1 (.tmp 4) (.tmp 31)⟩] [(0, 1), (0, 2), (0, 3)]))))))
 (.seq (.draw [⟨some 32, none, .ld1 (.tmp 4)⟩,
 ⟨some 33, none, .fad (.tmp 8) 0⟩,
 ⟨some 34, none, .ld1 (.tmp 33)⟩,
 ⟨none, none, .st 1 (.tmp 4) (.tmp 32)⟩,
 ⟨none, none, .st 1 (.tmp 5) (.tmp 34)⟩,
 ⟨none, none, .st 1 (.tmp 6) (.const (.int .i64 0))⟩] [(0, 1), (0, 2), (1, 3), (2, 3)])
 .ret))))))⟩
theorem ok23 : compF Tryz.prog Tryz.f23 = some c23 := by kernel_rfl
def c24 : CF := ⟨4, [.tmp 2],
 (.seq (.ops [⟨some 1, none, .box (.tmp 0)⟩,
 ⟨some 2, none, .mov (.const .nilFunc)⟩])
 (.seq (.ops [⟨some 3, none, .fn 41 [] [(.tmp 1)]⟩,
 ⟨some 2, none, .mov (.tmp 3)⟩])
 .ret))⟩
theorem ok24 : compF Tryz.prog Tryz.f24 = some c24 := by kernel_rfl
def c25 : CF := ⟨23, [.cells 2 2, .tmp 3],
 (.seq (.ops [⟨some 2, none, .newz [(.slice none 0 0), (.slice none 0 0)]⟩,
 ⟨some 3, none, .mov (.const (.int .i64 0))⟩])
 (.seq (.ops [⟨some 7, none, .mov (.tmp 0)⟩,
 ⟨some 8, none, .call (.func 42) [(.tmp 7)]⟩,
 ⟨some 6, none, .mov (.tmp 8)⟩,
 ⟨some 9, none, .ext (.tmp 6) 0⟩,
 ⟨some 10, none, .ext (.tmp 6) 1⟩,
 ⟨some 4, none, .mov (.tmp 9)⟩,
 ⟨some 5, none, .mov (.tmp 10)⟩])
 (.seq (.seq (.ops [⟨some 11, none, .mov (.tmp 5)⟩,
 ⟨some 12, none, .bin .neq (.tmp 11) (.const (.int .i64 0))⟩])
 (.cond (.tmp 12)
 (.seq (.ops [⟨some 13, none, .agg [(.slice none 0 0), (.slice none 0 0)] []⟩,
 ⟨some 14, none, .mov (.tmp 5)⟩,
 ⟨none, none, .st 2 (.tmp 2) (.tmp 13)⟩,
 ⟨some 3, none, .mov (.tmp 14)⟩])
 .ret)
 .skip))
 (.seq (.seq (.ops [⟨some 15, none, .mov (.tmp 4)⟩,
 ⟨some 16, none, .call (.func 43) [(.tmp 15)]⟩,
 ⟨some 17, none, .un .not (.tmp 16)⟩])
 (.cond (.tmp 17)
 (.seq (.ops [⟨some 18, none, .agg [(.slice none 0 0), (.slice none 0 0)] []⟩,
 ⟨none, none, .st 2 (.tmp 2) (.tmp 18)⟩,
 ⟨some 3, none, .mov (.const (.int .i64 6))⟩])
 .ret)
 .skip))
 (.seq (.ops [⟨some 19, none, .mov (.tmp 4)⟩,
 ⟨some 20, none, .nilck (.tmp 19)⟩,
 ⟨some 21, none, .fad (.tmp 20) 3⟩,
 ⟨some 22, none, .ld 2 (.tmp 21)⟩,
 ⟨none, none, .st 2 (.tmp 2) (.tmp 22)⟩,
 ⟨some 3, none, .mov (.const (.int .i64 0))⟩])
 .ret)))))⟩
theorem ok25 : compF Tryz.prog Tryz.f25 = some c25 := by kernel_rfl
def c26 : CF := ⟨42, [.tmp 2, .tmp 3, .tmp 4, .tmp 5],
 (.seq (.ops [⟨some 2, none, .mov (.const (.slice none 0 0))⟩,
 ⟨some 3, none, .mov (.const (.int .i64 0))⟩,
 ⟨some 4, none, .mov (.const (.int .i64 0))⟩,
 ⟨some 5, none, .mov (.const (.int .i64 0))⟩])
 (.seq (.ops [⟨some 8, none, .mov (.tmp 0)⟩,
 ⟨some 9, none, .call (.func 44) [(.tmp 8)]⟩,
 ⟨some 7, none, .mov (.tmp 9)⟩,
 ⟨some 10, none, .ext (.tmp 7) 0⟩,
 ⟨some 11, none, .ext (.tmp 7) 1⟩,
 ⟨some 6, none, .mov (.tmp 10)⟩,
 ⟨some 5, none, .mov (.tmp 11)⟩])
 (.seq (.seq (.ops [⟨some 12, none, .mov (.tmp 5)⟩,
 ⟨some 13, none, .bin .neq (.tmp 12) (.const (.int .i64 0))⟩])
 (.cond (.tmp 13)
 (.seq (.ops [⟨some 14, none, .mov (.tmp 5)⟩,
 ⟨some 2, none, .mov (.const (.slice none 0 0))⟩,
 ⟨some 3, none, .mov (.const (.int .i64 0))⟩,
 ⟨some 4, none, .mov (.const (.int .i64 0))⟩,
 ⟨some 5, none, .mov (.tmp 14)⟩])
 .ret)
 .skip))
 (.seq (.ops [⟨some 16, none, .mov (.tmp 0)⟩,
 ⟨some 17, none, .mov (.tmp 6)⟩,
 ⟨some 18, none, .mov (.tmp 0)⟩,
 ⟨some 19, none, .mov (.tmp 6)⟩,
 ⟨some 20, none, .call (.func 46) [(.tmp 18), (.tmp 19)]⟩,
 ⟨some 21, none, .sl 6 (.tmp 16) (some (.tmp 17)) (some (.tmp 20)) none⟩,
 ⟨some 22, none, .call (.func 45) [(.tmp 21)]⟩,
 ⟨some 15, none, .mov (.tmp 22)⟩,
 ⟨some 23, none, .ext (.tmp 15) 0⟩,
 ⟨some 24, none, .ext (.tmp 15) 1⟩,
 ⟨some 25, none, .ext (.tmp 15) 2⟩,
 ⟨some 2, none, .mov (.tmp 23)⟩,
 ⟨some 4, none, .mov (.tmp 24)⟩,
 ⟨some 5, none, .mov (.tmp 25)⟩])
 (.seq (.seq (.ops [⟨some 26, none, .mov (.tmp 5)⟩,
 ⟨some 27, none, .bin .eql (.tmp 26) (.const (.int .i64 0))⟩])
 (.cond (.tmp 27)
 (.ops [⟨some 29, none, .mov (.tmp 0)⟩,
 ⟨some 30, none, .mov (.tmp 6)⟩,
 ⟨some 31, none, .mov (.tmp 2)⟩,
 ⟨some 32, none, .call (.func 47) [(.tmp 29), (.tmp 30), (.tmp 31)]⟩,
 ⟨some 28, none, .mov (.tmp 32)⟩,
 ⟨some 33, none, .ext (.tmp 28) 0⟩,
 ⟨some 34, none, .ext (.tmp 28) 1⟩,
 ⟨some 2, none, .mov (.tmp 33)⟩,
 ⟨some 5, none, .mov (.tmp 34)⟩])
 .skip))
 (.seq (.seq (.ops [⟨some 35, none, .mov (.tmp 5)⟩,
 ⟨some 36, none, .bin .neq (.tmp 35) (.const (.int .i64 0))⟩])
 (.cond (.tmp 36)
 (.seq (.ops [⟨some 37, none, .mov (.tmp 6)⟩,
 ⟨some 38, none, .mov (.tmp 5)⟩,
 ⟨some 2, none, .mov (.const (.slice none 0 0))⟩,
 ⟨some 3, none, .mov (.tmp 37)⟩,
 ⟨some 4, none, .mov (.const (.int .i64 0))⟩,
 ⟨some 5, none, .mov (.tmp 38)⟩])
 .ret)
 .skip))
 (.seq (.ops [⟨some 39, none, .mov (.tmp 2)⟩,
 ⟨some 40, none, .mov (.tmp 6)⟩,
 ⟨some 41, none, .mov (.tmp 4)⟩,
 ⟨some 2, none, .mov (.tmp 39)⟩,
 ⟨some 3, none, .mov (.tmp 40)⟩,
 ⟨some 4, none, .mov (.tmp 41)⟩,
 ⟨some 5, none, .mov (.const (.int .i64 0))⟩])
 .ret)))))))⟩
theorem ok26 : compF Tryz.prog Tryz.f26 = some c26 := by kernel_rfl
def c27 : CF := ⟨26, [],
 (.seq (.ops [⟨some 5, none, .ld1 (.tmp 1)⟩,
 ⟨some 6, none, .nilck (.tmp 5)⟩,
 ⟨some 7, none, .fad (.tmp 6) 1⟩,
 ⟨some 8, none, .ld1 (.tmp 7)⟩,
 ⟨some 9, none, .lnl (.tmp 8)⟩,
 ⟨some 10, none, .mov (.const (.int .i64 0))⟩])
 (.block 0 (.loop (.seq (.ops [⟨some 11, none, .bin .lss (.tmp 10) (.tmp 9)⟩])
 (.seq (.cond (.tmp 11)
 .skip
 (.exit 0))
 (.seq (.block 1 (.seq (.ops [⟨some 12, none, .mov (.tmp 10)⟩,
 ⟨some 13, none, .iad 6 (.tmp 8) (.tmp 10)⟩,
 ⟨some 14, none, .ld 6 (.tmp 13)⟩,
 ⟨some 4, none, .newz [(.slice none 0 0), (.slice none 0 0), (.int .i64 0), (.int .i64 0), (.int .i64 0), (.int .i64 0)]⟩,
 ⟨some 3, none, .mov (.tmp 12)⟩,
 ⟨none, none, .st 6 (.tmp 4) (.tmp 14)⟩])
 (.seq (.ops [⟨some 15, none, .fad (.tmp 4) 1⟩,
 ⟨some 16, none, .ld1 (.tmp 15)⟩,
 ⟨some 17, none, .eqn 1 true true (.tmp 16) (.const (.slice none 0 0))⟩,
 ⟨some 18, none, .mov (.tmp 17)⟩,
 ⟨some 19, (some (18, true)), .mov (.tmp 0)⟩,
 ⟨some 20, (some (18, true)), .mov (.tmp 3)⟩,
 ⟨some 21, (some (18, true)), .ld 6 (.tmp 4)⟩,
 ⟨some 22, (some (18, true)), .call (.tmp 19) [(.tmp 20), (.tmp 21)]⟩,
 ⟨some 23, (some (18, true)), .un .not (.tmp 22)⟩,
 ⟨some 24, none, .pick (.tmp 18) (.tmp 23) (.const (.bool false))⟩])
 (.cond (.tmp 24)
 .ret
 .skip))))
 (.ops [⟨some 25, none, .bin .add (.tmp 10) (.const (.int .i64 1))⟩,
 ⟨some 10, none, .mov (.tmp 25)⟩])))))))⟩
theorem ok27 : compF Tryz.prog Tryz.f27 = some c27 := by kernel_rfl
def c28 : CF := ⟨29, [.tmp 4, .tmp 5],
 (.seq (.ops [⟨some 4, none, .mov (.const (.pointer none))⟩,
 ⟨some 5, none, .mov (.const (.int .i64 0))⟩])
 (.seq (.ops [⟨some 10, none, .mov (.tmp 0)⟩,
 ⟨some 11, none, .call (.func 48) [(.tmp 10)]⟩,
 ⟨some 9, none, .mov (.tmp 11)⟩,
 ⟨some 12, none, .ext (.tmp 9) 0⟩,
 ⟨some 13, none, .ext (.tmp 9) 1⟩,
 ⟨some 14, none, .ext (.tmp 9) 2⟩,
 ⟨some 6, none, .mov (.tmp 12)⟩,
 ⟨some 7, none, .mov (.tmp 13)⟩,
 ⟨some 8, none, .mov (.tmp 14)⟩])
 (.seq (.seq (.ops [⟨some 15, none, .mov (.tmp 8)⟩,
 ⟨some 16, none, .bin .eql (.tmp 15) (.const (.int .i64 0))⟩,
 ⟨some 17, none, .mov (.tmp 16)⟩,
 ⟨some 18, (some (17, true)), .mov (.tmp 1)⟩,
 ⟨some 19, (some (17, true)), .bin .lss (.tmp 18) (.const (.int .i64 0))⟩,
 ⟨some 20, (some (17, true)), .mov (.tmp 19)⟩,
 ⟨some 21, (some (20, false)), .mov (.tmp 1)⟩,
 ⟨some 22, (some (20, false)), .mov (.tmp 0)⟩,
 ⟨some 23, (some (20, false)), .lnl (.tmp 22)⟩,
 ⟨some 24, (some (20, false)), .bin .geq (.tmp 21) (.tmp 23)⟩,
 ⟨some 25, (some (17, true)), .pick (.tmp 20) (.const (.bool true)) (.tmp 24)⟩,
 ⟨some 26, none, .pick (.tmp 17) (.tmp 25) (.const (.bool false))⟩])
 (.cond (.tmp 26)
 (.ops [⟨some 8, none, .mov (.const (.int .i64 4))⟩])
 .skip))
 (.seq (.ops [⟨some 27, none, .mov (.tmp 6)⟩,
 ⟨some 28, none, .mov (.tmp 8)⟩,
 ⟨some 4, none, .mov (.tmp 27)⟩,
 ⟨some 5, none, .mov (.tmp 28)⟩])
 .ret))))⟩
theorem ok28 : compF Tryz.prog Tryz.f28 = some c28 := by kernel_rfl
def c29 : CF := ⟨158, [],
 (.seq (.ops [⟨some 8, none, .mov (.tmp 0)⟩,
 ⟨some 9, none, .nilck (.tmp 8)⟩,
 ⟨some 10, none, .fad (.tmp 9) 0⟩,
 ⟨some 11, none, .ld1 (.tmp 10)⟩,
 ⟨some 12, none, .nilck (.tmp 11)⟩,
 ⟨some 13, none, .fad (.tmp 12) 0⟩,
 ⟨some 14, none, .ld1 (.tmp 13)⟩,
 ⟨some 15, none, .mov (.tmp 1)⟩,
 ⟨some 16, none, .iad 7 (.tmp 14) (.tmp 15)⟩,
 ⟨some 17, none, .ld 7 (.tmp 16)⟩,
 ⟨some 4, none, .newz [(.int .i64 0), (.int .i64 0), (.int .i64 0), (.string ⟨#[]⟩), (.int .i64 0), (.int .i64 0), (.int .i64 0)]⟩,
 ⟨none, none, .st 7 (.tmp 4) (.tmp 17)⟩])
 (.seq (.ops [⟨some 18, none, .mov (.tmp 0)⟩,
 ⟨some 19, none, .nilck (.tmp 18)⟩,
 ⟨some 20, none, .fad (.tmp 19) 0⟩,
 ⟨some 21, none, .ld1 (.tmp 20)⟩,
 ⟨some 22, none, .mov (.tmp 1)⟩,
 ⟨some 23, none, .call (.func 49) [(.tmp 21), (.tmp 22)]⟩,
 ⟨some 5, none, .mov (.tmp 23)⟩])
 (.seq (.ops [⟨some 24, none, .fad (.tmp 4) 0⟩,
 ⟨some 25, none, .ld1 (.tmp 24)⟩])
 (.block 0 (.seq (.ops [⟨some 41, none, .bin .eql (.tmp 25) (.const (.int .i64 1))⟩,
 ⟨some 40, none, .mov (.tmp 41)⟩])
 (.cond (.tmp 40)
 (.draw [⟨some 42, none, .mov (.tmp 0)⟩,
 ⟨some 43, none, .mov (.tmp 0)⟩,
 ⟨some 44, none, .nilck (.tmp 43)⟩,
 ⟨some 45, none, .fad (.tmp 44) 2⟩,
 ⟨some 46, none, .ld1 (.tmp 45)⟩,
 ⟨some 47, none, .fad (.tmp 4) 2⟩,
 ⟨some 48, none, .ld1 (.tmp 47)⟩,
 ⟨some 49, none, .agg [(.int .i64 0), (.int .i64 0), (.int .i64 0), (.string ⟨#[]⟩)] [(0, 1, (.const (.int .i64 1))), (2, 1, (.tmp 48))]⟩,
 ⟨some 50, none, .lits [(.int .i64 0), (.int .i64 0), (.int .i64 0), (.string ⟨#[]⟩)] 1 [(0, 4, (.tmp 49))]⟩,
 ⟨some 51, none, .app 4 40 none (.tmp 46) (.tmp 50)⟩,
 ⟨some 52, none, .nilck (.tmp 42)⟩,
 ⟨some 53, none, .fad (.tmp 52) 2⟩,
 ⟨none, none, .st 1 (.tmp 53) (.tmp 51)⟩] [(0, 1), (0, 2), (0, 3), (0, 4), (0, 5), (1, 5), (2, 5), (3, 5), (4, 5), (0, 6), (1, 6), (2, 6), (3, 6), (4, 6), (0, 7), (1, 7), (2, 7), (3, 7), (4, 7), (0, 8), (1, 8), (2, 8), (3, 8), (4, 8), (0, 9)])
 (.seq (.ops [⟨some 55, none, .bin .eql (.tmp 25) (.const (.int .i64 2))⟩,
 ⟨some 54, none, .mov (.tmp 55)⟩])
 (.cond (.tmp 54)
 (.draw [⟨some 56, none, .mov (.tmp 0)⟩,
 ⟨some 57, none, .mov (.tmp 0)⟩,
 ⟨some 58, none, .nilck (.tmp 57)⟩,
 ⟨some 59, none, .fad (.tmp 58) 2⟩,
 ⟨some 60, none, .ld1 (.tmp 59)⟩,
 ⟨some 61, none, .fad (.tmp 4) 2⟩,
 ⟨some 62, none, .ld1 (.tmp 61)⟩,
 ⟨some 63, none, .agg [(.int .i64 0), (.int .i64 0), (.int .i64 0), (.string ⟨#[]⟩)] [(0, 1, (.const (.int .i64 2))), (2, 1, (.tmp 62))]⟩,
 ⟨some 64, none, .lits [(.int .i64 0), (.int .i64 0), (.int .i64 0), (.string ⟨#[]⟩)] 1 [(0, 4, (.tmp 63))]⟩,
 ⟨some 65, none, .app 4 40 none (.tmp 60) (.tmp 64)⟩,
 ⟨some 66, none, .nilck (.tmp 56)⟩,
 ⟨some 67, none, .fad (.tmp 66) 2⟩,
 ⟨none, none, .st 1 (.tmp 67) (.tmp 65)⟩] [(0, 1), (0, 2), (0, 3), (0, 4), (0, 5), (1, 5), (2, 5), (3, 5), (4, 5), (0, 6), (1, 6), (2, 6), (3, 6), (4, 6), (0, 7), (1, 7), (2, 7), (3, 7), (4, 7), (0, 8), (1, 8), (2, 8), (3, 8), (4, 8), (0, 9)])
 (.seq (.seq (.ops [⟨some 69, none, .bin .eql (.tmp 25) (.const (.int .i64 4))⟩,
 ⟨some 68, none, .mov (.tmp 69)⟩])
 (.cond (.tmp 68)
 .skip
 (.ops [⟨some 70, none, .bin .eql (.tmp 25) (.const (.int .i64 7))⟩,
 ⟨some 68, none, .mov (.tmp 70)⟩])))
 (.cond (.tmp 68)
 (.ops [⟨some 71, none, .mov (.tmp 0)⟩,
 ⟨some 72, none, .fad (.tmp 4) 3⟩,
 ⟨some 73, none, .ld1 (.tmp 72)⟩,
 ⟨some 74, none, .call (.func 50) [(.tmp 71), (.tmp 73)]⟩])
 (.seq (.seq (.ops [⟨some 76, none, .bin .eql (.tmp 25) (.const (.int .i64 6))⟩,
 ⟨some 75, none, .mov (.tmp 76)⟩])
 (.cond (.tmp 75)
 .skip
 (.ops [⟨some 77, none, .bin .eql (.tmp 25) (.const (.int .i64 9))⟩,
 ⟨some 75, none, .mov (.tmp 77)⟩])))
 (.cond (.tmp 75)
 (.seq (.ops [⟨some 6, none, .mov (.const (.string ⟨#[118]⟩))⟩])
 (.seq (.seq (.ops [⟨some 78, none, .mov (.tmp 0)⟩,
 ⟨some 79, none, .nilck (.tmp 78)⟩,
 ⟨some 80, none, .fad (.tmp 79) 1⟩,
 ⟨some 81, none, .ld1 (.tmp 80)⟩])
 (.cond (.tmp 81)
 (.ops [⟨some 82, none, .fad (.tmp 4) 3⟩,
 ⟨some 83, none, .ld1 (.tmp 82)⟩,
 ⟨some 6, none, .mov (.tmp 83)⟩])
 .skip))
 (.ops [⟨some 84, none, .mov (.tmp 0)⟩,
 ⟨some 85, none, .mov (.tmp 6)⟩,
 ⟨some 86, none, .bin .add (.tmp 85) (.const (.string ⟨#[46]⟩))⟩,
 ⟨some 87, none, .fad (.tmp 4) 2⟩,
 ⟨some 88, none, .ld1 (.tmp 87)⟩,
 ⟨some 89, none, .call (.func 51) [(.tmp 88), (.const (.int .i64 10))]⟩,
 ⟨some 90, none, .bin .add (.tmp 86) (.tmp 89)⟩,
 ⟨some 91, none, .call (.func 50) [(.tmp 84), (.tmp 90)]⟩])))
 (.seq (.seq (.ops [⟨some 93, none, .bin .eql (.tmp 25) (.const (.int .i64 10))⟩,
 ⟨some 92, none, .mov (.tmp 93)⟩])
 (.cond (.tmp 92)
 .skip
 (.seq (.ops [⟨some 94, none, .bin .eql (.tmp 25) (.const (.int .i64 5))⟩,
 ⟨some 92, none, .mov (.tmp 94)⟩])
 (.cond (.tmp 92)
 .skip
 (.ops [⟨some 95, none, .bin .eql (.tmp 25) (.const (.int .i64 16))⟩,
 ⟨some 92, none, .mov (.tmp 95)⟩])))))
 (.cond (.tmp 92)
 (.seq (.ops [⟨some 96, none, .mov (.tmp 0)⟩,
 ⟨some 97, none, .fad (.tmp 4) 1⟩,
 ⟨some 98, none, .ld1 (.tmp 97)⟩,
 ⟨some 99, none, .call (.func 52) [(.tmp 96), (.tmp 98)]⟩])
 (.ops [⟨some 100, none, .mov (.tmp 0)⟩,
 ⟨some 101, none, .mov (.tmp 5)⟩,
 ⟨some 102, none, .call (.func 53) [(.tmp 100), (.tmp 101)]⟩]))
 (.seq (.ops [⟨some 104, none, .bin .eql (.tmp 25) (.const (.int .i64 8))⟩,
 ⟨some 103, none, .mov (.tmp 104)⟩])
 (.cond (.tmp 103)
 (.seq (.ops [⟨some 105, none, .mov (.tmp 0)⟩,
 ⟨some 106, none, .call (.func 52) [(.tmp 105), (.const (.int .i64 3))]⟩])
 (.seq (.ops [⟨some 107, none, .mov (.tmp 0)⟩,
 ⟨some 108, none, .call (.func 50) [(.tmp 107), (.const (.string ⟨#[108, 97, 109, 98, 100, 97]⟩))]⟩])
 (.seq (.ops [⟨some 109, none, .mov (.tmp 0)⟩,
 ⟨some 110, none, .fad (.tmp 4) 1⟩,
 ⟨some 111, none, .ld1 (.tmp 110)⟩,
 ⟨some 112, none, .bin .sub (.tmp 111) (.const (.int .i64 1))⟩,
 ⟨some 113, none, .call (.func 52) [(.tmp 109), (.tmp 112)]⟩])
 (.ops [⟨some 114, none, .mov (.tmp 0)⟩,
 ⟨some 115, none, .mov (.tmp 5)⟩,
 ⟨some 116, none, .call (.func 53) [(.tmp 114), (.tmp 115)]⟩]))))
 (.seq (.seq (.ops [⟨some 118, none, .bin .eql (.tmp 25) (.const (.int .i64 12))⟩,
 ⟨some 117, none, .mov (.tmp 118)⟩])
 (.cond (.tmp 117)
 .skip
 (.seq (.ops [⟨some 119, none, .bin .eql (.tmp 25) (.const (.int .i64 13))⟩,
 ⟨some 117, none, .mov (.tmp 119)⟩])
 (.cond (.tmp 117)
 .skip
 (.ops [⟨some 120, none, .bin .eql (.tmp 25) (.const (.int .i64 14))⟩,
 ⟨some 117, none, .mov (.tmp 120)⟩])))))
 (.cond (.tmp 117)
 (.seq (.ops [⟨some 121, none, .mov (.tmp 0)⟩,
 ⟨some 122, none, .call (.func 52) [(.tmp 121), (.const (.int .i64 3))]⟩])
 (.seq (.draw [⟨some 123, none, .mov (.tmp 0)⟩,
 ⟨some 124, none, .call (.func 54) []⟩,
 ⟨some 125, none, .fad (.tmp 4) 0⟩,
 ⟨some 126, none, .ld1 (.tmp 125)⟩,
 ⟨some 127, none, .ida1 25 1 (.tmp 124) (.tmp 126)⟩,
 ⟨some 128, none, .call (.func 50) [(.tmp 123), (.tmp 127)]⟩] [(0, 1), (0, 2), (1, 2), (0, 3), (1, 3), (0, 4)])
 (.seq (.ops [⟨some 129, none, .mov (.tmp 0)⟩,
 ⟨some 130, none, .fad (.tmp 4) 1⟩,
 ⟨some 131, none, .ld1 (.tmp 130)⟩,
 ⟨some 132, none, .bin .quo (.tmp 131) (.const (.int .i64 2))⟩,
 ⟨some 133, none, .call (.func 52) [(.tmp 129), (.tmp 132)]⟩])
 (.seq (.seq (.ops [⟨some 7, none, .mov (.const (.int .i64 0))⟩])
 (.block 1 (.loop (.seq (.seq (.ops [⟨some 134, none, .mov (.tmp 7)⟩,
 ⟨some 135, none, .bin .add (.tmp 134) (.const (.int .i64 1))⟩,
 ⟨some 136, none, .mov (.tmp 5)⟩,
 ⟨some 137, none, .lnl (.tmp 136)⟩,
 ⟨some 138, none, .bin .lss (.tmp 135) (.tmp 137)⟩])
 (.cond (.tmp 138)
 .skip
 (.exit 1)))
 (.seq (.block 2 (.seq (.ops [⟨some 141, none, .mov (.tmp 0)⟩,
 ⟨some 142, none, .call (.func 52) [(.tmp 141), (.const (.int .i64 2))]⟩])
 (.ops [⟨some 143, none, .mov (.tmp 0)⟩,
 ⟨some 144, none, .mov (.tmp 5)⟩,
 ⟨some 145, none, .mov (.tmp 7)⟩,
 ⟨some 146, none, .mov (.tmp 7)⟩,
 ⟨some 147, none, .bin .add (.tmp 146) (.const (.int .i64 2))⟩,
 ⟨some 148, none, .sl 1 (.tmp 144) (some (.tmp 145)) (some (.tmp 147)) none⟩,
 ⟨some 149, none, .call (.func 53) [(.tmp 143), (.tmp 148)]⟩])))
 (.ops [⟨some 139, none, .mov (.tmp 7)⟩,
 ⟨some 140, none, .bin .add (.tmp 139) (.const (.int .i64 2))⟩,
 ⟨some 7, none, .mov (.tmp 140)⟩]))))))
 (.ops [⟨some 150, none, .mov (.tmp 0)⟩,
 ⟨some 151, none, .mov (.tmp 5)⟩,
 ⟨some 152, none, .mov (.tmp 5)⟩,
 ⟨some 153, none, .lnl (.tmp 152)⟩,
 ⟨some 154, none, .bin .sub (.tmp 153) (.const (.int .i64 1))⟩,
 ⟨some 155, none, .iad 1 (.tmp 151) (.tmp 154)⟩,
 ⟨some 156, none, .ld1 (.tmp 155)⟩,
 ⟨some 157, none, .call (.func 29) [(.tmp 150), (.tmp 156)]⟩])))))
 (.seq (.ops [⟨some 26, none, .mov (.tmp 0)⟩,
 ⟨some 27, none, .fad (.tmp 4) 1⟩,
 ⟨some 28, none, .ld1 (.tmp 27)⟩,
 ⟨some 29, none, .bin .add (.tmp 28) (.const (.int .i64 1))⟩,
 ⟨some 30, none, .call (.func 52) [(.tmp 26), (.tmp 29)]⟩])
 (.seq (.draw [⟨some 31, none, .mov (.tmp 0)⟩,
 ⟨some 32, none, .call (.func 54) []⟩,
 ⟨some 33, none, .fad (.tmp 4) 0⟩,
 ⟨some 34, none, .ld1 (.tmp 33)⟩,
 ⟨some 35, none, .ida1 25 1 (.tmp 32) (.tmp 34)⟩,
 ⟨some 36, none, .call (.func 50) [(.tmp 31), (.tmp 35)]⟩] [(0, 1), (0, 2), (1, 2), (0, 3), (1, 3), (0, 4)])
 (.ops [⟨some 37, none, .mov (.tmp 0)⟩,
 ⟨some 38, none, .mov (.tmp 5)⟩,
 ⟨some 39, none, .call (.func 53) [(.tmp 37), (.tmp 38)]⟩])))))))))))))))))))))⟩
theorem ok29 : compF Tryz.prog Tryz.f29 = some c29 := by kernel_rfl
def c30 : CF := ⟨54, [.tmp 4],
 (.seq (.ops [⟨some 4, none, .mov (.const (.slice none 0 0))⟩])
 (.seq (.ops [⟨some 7, none, .mov (.tmp 1)⟩,
 ⟨some 8, none, .iad 4 (.tmp 7) (.const (.int .i64 0))⟩,
 ⟨some 9, none, .ld 4 (.tmp 8)⟩,
 ⟨some 5, none, .newz [(.int .i64 0), (.int .i64 0), (.int .i64 0), (.string ⟨#[]⟩)]⟩,
 ⟨none, none, .st 4 (.tmp 5) (.tmp 9)⟩])
 (.seq (.ops [⟨some 10, none, .mov (.tmp 1)⟩,
 ⟨some 11, none, .sl 4 (.tmp 10) (some (.const (.int .i64 1))) none none⟩,
 ⟨some 1, none, .mov (.tmp 11)⟩])
 (.seq (.seq (.ops [⟨some 12, none, .fad (.tmp 5) 0⟩,
 ⟨some 13, none, .ld1 (.tmp 12)⟩])
 (.block 0 (.seq (.ops [⟨some 32, none, .bin .eql (.tmp 13) (.const (.int .i64 1))⟩,
 ⟨some 31, none, .mov (.tmp 32)⟩])
 (.cond (.tmp 31)
 (.ops [⟨some 33, none, .mov (.tmp 0)⟩,
 ⟨some 34, none, .fad (.tmp 5) 2⟩,
 ⟨some 35, none, .ld1 (.tmp 34)⟩,
 ⟨some 36, none, .call (.func 51) [(.tmp 35), (.const (.int .i64 10))]⟩,
 ⟨some 37, none, .call (.func 55) [(.tmp 33), (.tmp 36)]⟩])
 (.seq (.ops [⟨some 39, none, .bin .eql (.tmp 13) (.const (.int .i64 2))⟩,
 ⟨some 38, none, .mov (.tmp 39)⟩])
 (.cond (.tmp 38)
 (.ops [⟨some 40, none, .mov (.tmp 0)⟩,
 ⟨some 41, none, .lits [(.string ⟨#[]⟩), (.string ⟨#[]⟩)] 2 [(0, 1, (.const (.string ⟨#[35, 102]⟩))), (1, 1, (.const (.string ⟨#[35, 116]⟩)))]⟩,
 ⟨some 42, none, .fad (.tmp 5) 2⟩,
 ⟨some 43, none, .ld1 (.tmp 42)⟩,
 ⟨some 44, none, .iad 1 (.tmp 41) (.tmp 43)⟩,
 ⟨some 45, none, .ld1 (.tmp 44)⟩,
 ⟨some 46, none, .call (.func 55) [(.tmp 40), (.tmp 45)]⟩])
 (.seq (.ops [⟨some 48, none, .bin .eql (.tmp 13) (.const (.int .i64 3))⟩,
 ⟨some 47, none, .mov (.tmp 48)⟩])
 (.cond (.tmp 47)
 (.ops [⟨some 49, none, .mov (.tmp 0)⟩,
 ⟨some 50, none, .fad (.tmp 5) 3⟩,
 ⟨some 51, none, .ld1 (.tmp 50)⟩,
 ⟨some 52, none, .call (.func 55) [(.tmp 49), (.tmp 51)]⟩])
 (.seq (.ops [⟨some 14, none, .mov (.tmp 0)⟩,
 ⟨some 15, none, .call (.func 56) [(.tmp 14), (.const (.int .u8 40))]⟩])
 (.seq (.seq (.ops [⟨some 16, none, .fad (.tmp 5) 1⟩,
 ⟨some 17, none, .ld1 (.tmp 16)⟩,
 ⟨some 18, none, .mov (.const (.int .i64 0))⟩])
 (.block 1 (.loop (.seq (.ops [⟨some 19, none, .bin .lss (.tmp 18) (.tmp 17)⟩])
 (.seq (.cond (.tmp 19)
 .skip
 (.exit 1))
 (.seq (.block 2 (.seq (.ops [⟨some 20, none, .mov (.tmp 18)⟩,
 ⟨some 6, none, .mov (.tmp 20)⟩])
 (.seq (.seq (.ops [⟨some 21, none, .mov (.tmp 6)⟩,
 ⟨some 22, none, .bin .gtr (.tmp 21) (.const (.int .i64 0))⟩])
 (.cond (.tmp 22)
 (.ops [⟨some 23, none, .mov (.tmp 0)⟩,
 ⟨some 24, none, .call (.func 56) [(.tmp 23), (.const (.int .u8 32))]⟩])
 .skip))
 (.ops [⟨some 25, none, .mov (.tmp 0)⟩,
 ⟨some 26, none, .mov (.tmp 1)⟩,
 ⟨some 27, none, .call (.func 30) [(.tmp 25), (.tmp 26)]⟩,
 ⟨some 1, none, .mov (.tmp 27)⟩]))))
 (.ops [⟨some 28, none, .bin .add (.tmp 18) (.const (.int .i64 1))⟩,
 ⟨some 18, none, .mov (.tmp 28)⟩])))))))
 (.ops [⟨some 29, none, .mov (.tmp 0)⟩,
 ⟨some 30, none, .call (.func 56) [(.tmp 29), (.const (.int .u8 41))]⟩])))))))))))
 (.seq (.ops [⟨some 53, none, .mov (.tmp 1)⟩,
 ⟨some 4, none, .mov (.tmp 53)⟩])
 .ret)))))⟩
theorem ok30 : compF Tryz.prog Tryz.f30 = some c30 := by kernel_rfl
def c31 : CF := ⟨14, [.tmp 2],
 (.seq (.ops [⟨some 2, none, .mov (.const (.string ⟨#[]⟩))⟩])
 (.seq (.draw [⟨some 3, none, .mov (.tmp 0)⟩,
 ⟨some 4, none, .nilck (.tmp 3)⟩,
 ⟨some 5, none, .fad (.tmp 4) 1⟩,
 ⟨some 6, none, .ld1 (.tmp 5)⟩,
 ⟨some 7, none, .usd (.tmp 6)⟩,
 ⟨some 8, none, .mov (.tmp 0)⟩,
 ⟨some 9, none, .nilck (.tmp 8)⟩,
 ⟨some 10, none, .fad (.tmp 9) 1⟩,
 ⟨some 11, none, .ld1 (.tmp 10)⟩,
 ⟨some 12, none, .lnl (.tmp 11)⟩,
 ⟨some 13, none, .ust 5 (.tmp 7) (.tmp 12)⟩,
 ⟨some 2, none, .mov (.tmp 13)⟩] [(0, 5), (1, 5), (2, 5), (3, 5), (4, 5), (0, 6), (1, 6), (2, 6), (3, 6), (4, 6), (0, 7), (1, 7), (2, 7), (3, 7), (4, 7), (0, 8), (1, 8), (2, 8), (3, 8), (4, 8), (0, 9), (1, 9), (2, 9), (3, 9), (4, 9)])
 .ret))⟩
theorem ok31 : compF Tryz.prog Tryz.f31 = some c31 := by kernel_rfl
def c32 : CF := ⟨5, [.tmp 2],
 (.seq (.ops [⟨some 2, none, .mov (.const (.string ⟨#[]⟩))⟩])
 (.seq (.ops [⟨some 3, none, .mov (.tmp 0)⟩,
 ⟨some 4, none, .call (.func 57) [(.tmp 3), (.const (.int .i64 10))]⟩,
 ⟨some 2, none, .mov (.tmp 4)⟩])
 .ret))⟩
theorem ok32 : compF Tryz.prog Tryz.f32 = some c32 := by kernel_rfl
def c33 : CF := ⟨52, [.tmp 2, .tmp 3],
 (.seq (.ops [⟨some 2, none, .mov (.const (.int .i64 0))⟩,
 ⟨some 3, none, .mov (.const (.int .i64 0))⟩])
 (.seq (.seq (.ops [⟨some 12, none, .mov (.tmp 0)⟩,
 ⟨some 13, none, .call (.func 58) [(.tmp 12)]⟩,
 ⟨some 11, none, .mov (.tmp 13)⟩,
 ⟨some 14, none, .ext (.tmp 11) 0⟩,
 ⟨some 15, none, .ext (.tmp 11) 1⟩,
 ⟨some 4, none, .mov (.tmp 14)⟩,
 ⟨some 5, none, .mov (.tmp 15)⟩])
 (.seq (.ops [⟨some 16, none, .mov (.tmp 5)⟩,
 ⟨some 17, none, .bin .neq (.tmp 16) (.const (.int .i64 0))⟩])
 (.cond (.tmp 17)
 (.seq (.ops [⟨some 18, none, .mov (.tmp 4)⟩,
 ⟨some 19, none, .mov (.tmp 5)⟩,
 ⟨some 2, none, .mov (.tmp 18)⟩,
 ⟨some 3, none, .mov (.tmp 19)⟩])
 .ret)
 .skip)))
 (.seq (.ops [⟨some 20, none, .mov (.tmp 0)⟩,
 ⟨some 21, none, .call (.func 34) [(.tmp 20)]⟩,
 ⟨some 6, none, .mov (.tmp 21)⟩])
 (.seq (.seq (.ops [⟨some 22, none, .mov (.tmp 0)⟩,
 ⟨some 23, none, .lnl (.tmp 22)⟩,
 ⟨some 24, none, .mov (.const (.int .i64 0))⟩])
 (.block 0 (.loop (.seq (.ops [⟨some 25, none, .bin .lss (.tmp 24) (.tmp 23)⟩])
 (.seq (.cond (.tmp 25)
 .skip
 (.exit 0))
 (.seq (.block 1 (.seq (.ops [⟨some 26, none, .mov (.tmp 24)⟩,
 ⟨some 27, none, .iad 7 (.tmp 22) (.tmp 24)⟩,
 ⟨some 28, none, .ld 7 (.tmp 27)⟩,
 ⟨some 8, none, .newz [(.int .i64 0), (.int .i64 0), (.int .i64 0), (.string ⟨#[]⟩), (.int .i64 0), (.int .i64 0), (.int .i64 0)]⟩,
 ⟨some 7, none, .mov (.tmp 26)⟩,
 ⟨none, none, .st 7 (.tmp 8) (.tmp 28)⟩])
 (.seq (.seq (.ops [⟨some 29, none, .fad (.tmp 8) 0⟩,
 ⟨some 30, none, .ld1 (.tmp 29)⟩,
 ⟨some 31, none, .bin .eql (.tmp 30) (.const (.int .i64 10))⟩,
 ⟨some 32, none, .mov (.tmp 31)⟩,
 ⟨some 33, (some (32, true)), .fad (.tmp 8) 1⟩,
 ⟨some 34, (some (32, true)), .ld1 (.tmp 33)⟩,
 ⟨some 35, (some (32, true)), .bin .gtr (.tmp 34) (.const (.int .i64 9))⟩,
 ⟨some 36, none, .pick (.tmp 32) (.tmp 35) (.const (.bool false))⟩])
 (.cond (.tmp 36)
 (.seq (.ops [⟨some 37, none, .mov (.tmp 7)⟩,
 ⟨some 2, none, .mov (.tmp 37)⟩,
 ⟨some 3, none, .mov (.const (.int .i64 3))⟩])
 .ret)
 .skip))
 (.seq (.ops [⟨some 39, none, .mov (.tmp 6)⟩,
 ⟨some 40, none, .mov (.tmp 7)⟩,
 ⟨some 41, none, .call (.func 59) [(.tmp 39), (.tmp 40)]⟩,
 ⟨some 38, none, .mov (.tmp 41)⟩,
 ⟨some 42, none, .ext (.tmp 38) 0⟩,
 ⟨some 43, none, .ext (.tmp 38) 1⟩,
 ⟨some 9, none, .mov (.tmp 42)⟩,
 ⟨some 10, none, .mov (.tmp 43)⟩])
 (.seq (.ops [⟨some 44, none, .mov (.tmp 9)⟩,
 ⟨some 45, none, .mov (.tmp 44)⟩,
 ⟨some 46, (some (45, true)), .fad (.tmp 8) 0⟩,
 ⟨some 47, (some (45, true)), .ld1 (.tmp 46)⟩,
 ⟨some 48, (some (45, true)), .bin .eql (.tmp 47) (.const (.int .i64 24))⟩,
 ⟨some 49, none, .pick (.tmp 45) (.tmp 48) (.const (.bool false))⟩])
 (.cond (.tmp 49)
 (.seq (.ops [⟨some 50, none, .mov (.tmp 7)⟩,
 ⟨some 2, none, .mov (.tmp 50)⟩,
 ⟨some 3, none, .mov (.const (.int .i64 6))⟩])
 .ret)
 .skip))))))
 (.ops [⟨some 51, none, .bin .add (.tmp 24) (.const (.int .i64 1))⟩,
 ⟨some 24, none, .mov (.tmp 51)⟩])))))))
 (.seq (.ops [⟨some 2, none, .mov (.const (.int .i64 0))⟩,
 ⟨some 3, none, .mov (.const (.int .i64 0))⟩])
 .ret)))))⟩
theorem ok33 : compF Tryz.prog Tryz.f33 = some c33 := by kernel_rfl
def c34 : CF := ⟨44, [.tmp 2],
 (.seq (.ops [⟨some 2, none, .mov (.const (.pointer none))⟩])
 (.seq (.ops [⟨some 6, none, .mov (.tmp 0)⟩,
 ⟨some 7, none, .mov (.tmp 0)⟩,
 ⟨some 8, none, .lnl (.tmp 7)⟩,
 ⟨some 9, none, .mks 8 [(.int .i64 0)] (.tmp 8) (.tmp 8)⟩,
 ⟨some 10, none, .agg [(.slice none 0 0), (.slice none 0 0)] [(0, 1, (.tmp 6)), (1, 1, (.tmp 9))]⟩,
 ⟨some 11, none, .box (.tmp 10)⟩,
 ⟨some 3, none, .mov (.tmp 11)⟩])
 (.seq (.seq (.ops [⟨some 12, none, .mov (.tmp 0)⟩,
 ⟨some 13, none, .lnl (.tmp 12)⟩,
 ⟨some 14, none, .bin .sub (.tmp 13) (.const (.int .i64 1))⟩,
 ⟨some 4, none, .mov (.tmp 14)⟩])
 (.block 0 (.loop (.seq (.seq (.ops [⟨some 15, none, .mov (.tmp 4)⟩,
 ⟨some 16, none, .bin .geq (.tmp 15) (.const (.int .i64 0))⟩])
 (.cond (.tmp 16)
 .skip
 (.exit 0)))
 (.seq (.block 1 (.seq (.ops [⟨some 19, none, .mov (.tmp 4)⟩,
 ⟨some 20, none, .bin .add (.tmp 19) (.const (.int .i64 1))⟩,
 ⟨some 5, none, .mov (.tmp 20)⟩])
 (.seq (.seq (.ops [⟨some 21, none, .mov (.tmp 0)⟩,
 ⟨some 22, none, .mov (.tmp 4)⟩,
 ⟨some 23, none, .iad 7 (.tmp 21) (.tmp 22)⟩,
 ⟨some 24, none, .fad (.tmp 23) 1⟩,
 ⟨some 25, none, .ld1 (.tmp 24)⟩,
 ⟨some 26, none, .mov (.const (.int .i64 0))⟩])
 (.block 2 (.loop (.seq (.ops [⟨some 27, none, .bin .lss (.tmp 26) (.tmp 25)⟩])
 (.seq (.cond (.tmp 27)
 .skip
 (.exit 2))
 (.seq (.block 3 (.ops [⟨some 28, none, .mov (.tmp 3)⟩,
 ⟨some 29, none, .nilck (.tmp 28)⟩,
 ⟨some 30, none, .fad (.tmp 29) 1⟩,
 ⟨some 31, none, .ld1 (.tmp 30)⟩,
 ⟨some 32, none, .mov (.tmp 5)⟩,
 ⟨some 33, none, .iad 1 (.tmp 31) (.tmp 32)⟩,
 ⟨some 34, none, .ld1 (.tmp 33)⟩,
 ⟨some 5, none, .mov (.tmp 34)⟩]))
 (.ops [⟨some 35, none, .bin .add (.tmp 26) (.const (.int .i64 1))⟩,
 ⟨some 26, none, .mov (.tmp 35)⟩])))))))
 (.ops [⟨some 36, none, .mov (.tmp 3)⟩,
 ⟨some 37, none, .nilck (.tmp 36)⟩,
 ⟨some 38, none, .fad (.tmp 37) 1⟩,
 ⟨some 39, none, .ld1 (.tmp 38)⟩,
 ⟨some 40, none, .mov (.tmp 4)⟩,
 ⟨some 41, none, .mov (.tmp 5)⟩,
 ⟨some 42, none, .iad 1 (.tmp 39) (.tmp 40)⟩,
 ⟨none, none, .st 1 (.tmp 42) (.tmp 41)⟩]))))
 (.ops [⟨some 17, none, .mov (.tmp 4)⟩,
 ⟨some 18, none, .bin .sub (.tmp 17) (.const (.int .i64 1))⟩,
 ⟨some 4, none, .mov (.tmp 18)⟩]))))))
 (.seq (.ops [⟨some 43, none, .mov (.tmp 3)⟩,
 ⟨some 2, none, .mov (.tmp 43)⟩])
 .ret))))⟩
theorem ok34 : compF Tryz.prog Tryz.f34 = some c34 := by kernel_rfl
def c35 : CF := ⟨44, [],
 (.ops [⟨some 2, none, .mov (.tmp 0)⟩,
 ⟨some 3, none, .mov (.tmp 0)⟩,
 ⟨some 4, none, .fn 60 [(.tmp 3)] []⟩,
 ⟨some 5, none, .mov (.tmp 0)⟩,
 ⟨some 6, none, .fn 60 [(.tmp 5)] []⟩,
 ⟨some 7, none, .mov (.tmp 0)⟩,
 ⟨some 8, none, .fn 61 [(.tmp 7)] []⟩,
 ⟨some 9, none, .mov (.tmp 0)⟩,
 ⟨some 10, none, .fn 62 [(.tmp 9)] []⟩,
 ⟨some 11, none, .mov (.tmp 0)⟩,
 ⟨some 12, none, .fn 63 [(.tmp 11)] []⟩,
 ⟨some 13, none, .mov (.tmp 0)⟩,
 ⟨some 14, none, .fn 64 [(.tmp 13)] []⟩,
 ⟨some 15, none, .mov (.tmp 0)⟩,
 ⟨some 16, none, .fn 65 [(.tmp 15)] []⟩,
 ⟨some 17, none, .mov (.tmp 0)⟩,
 ⟨some 18, none, .fn 66 [(.tmp 17)] []⟩,
 ⟨some 19, none, .mov (.tmp 0)⟩,
 ⟨some 20, none, .fn 67 [(.tmp 19)] []⟩,
 ⟨some 21, none, .mov (.tmp 0)⟩,
 ⟨some 22, none, .fn 68 [(.tmp 21)] []⟩,
 ⟨some 23, none, .mov (.tmp 0)⟩,
 ⟨some 24, none, .fn 69 [(.tmp 23)] []⟩,
 ⟨some 25, none, .mov (.tmp 0)⟩,
 ⟨some 26, none, .fn 70 [(.tmp 25)] []⟩,
 ⟨some 27, none, .mov (.tmp 0)⟩,
 ⟨some 28, none, .fn 71 [(.tmp 27)] []⟩,
 ⟨some 29, none, .mov (.tmp 0)⟩,
 ⟨some 30, none, .fn 72 [(.tmp 29)] []⟩,
 ⟨some 31, none, .mov (.tmp 0)⟩,
 ⟨some 32, none, .fn 73 [(.tmp 31)] []⟩,
 ⟨some 33, none, .mov (.tmp 0)⟩,
 ⟨some 34, none, .fn 74 [(.tmp 33)] []⟩,
 ⟨some 35, none, .mov (.tmp 0)⟩,
 ⟨some 36, none, .fn 74 [(.tmp 35)] []⟩,
 ⟨some 37, none, .mov (.tmp 0)⟩,
 ⟨some 38, none, .fn 75 [(.tmp 37)] []⟩,
 ⟨some 39, none, .mov (.tmp 0)⟩,
 ⟨some 40, none, .fn 76 [(.tmp 39)] []⟩,
 ⟨some 41, none, .agg [.nilFunc, .nilFunc, .nilFunc, .nilFunc, .nilFunc, .nilFunc, .nilFunc, .nilFunc, .nilFunc, .nilFunc, .nilFunc, .nilFunc, .nilFunc, .nilFunc, .nilFunc, .nilFunc, .nilFunc, .nilFunc, .nilFunc, .nilFunc, .nilFunc, .nilFunc, .nilFunc, .nilFunc, .nilFunc] [(1, 1, (.tmp 4)), (2, 1, (.tmp 6)), (3, 1, (.tmp 8)), (6, 1, (.tmp 10)), (7, 1, (.tmp 12)), (8, 1, (.tmp 14)), (10, 1, (.tmp 16)), (11, 1, (.tmp 18)), (24, 1, (.tmp 20)), (12, 1, (.tmp 22)), (13, 1, (.tmp 24)), (14, 1, (.tmp 26)), (15, 1, (.tmp 28)), (18, 1, (.tmp 30)), (19, 1, (.tmp 32)), (20, 1, (.tmp 34)), (21, 1, (.tmp 36)), (22, 1, (.tmp 38)), (23, 1, (.tmp 40))]⟩,
 ⟨some 42, none, .nilck (.tmp 2)⟩,
 ⟨some 43, none, .fad (.tmp 42) 2⟩,
 ⟨none, none, .st 25 (.tmp 43) (.tmp 41)⟩])⟩
theorem ok35 : compF Tryz.prog Tryz.f35 = some c35 := by kernel_rfl
def c36 : CF := ⟨33, [.tmp 6],
 (.seq (.ops [⟨some 6, none, .mov (.const (.slice none 0 0))⟩])
 (.seq (.seq (.ops [⟨some 7, none, .mov (.tmp 0)⟩,
 ⟨some 8, none, .nilck (.tmp 7)⟩,
 ⟨some 9, none, .fad (.tmp 8) 1⟩,
 ⟨some 10, none, .ld1 (.tmp 9)⟩])
 (.cond (.tmp 10)
 (.seq (.ops [⟨some 11, none, .mov (.tmp 0)⟩,
 ⟨some 12, none, .mov (.tmp 1)⟩,
 ⟨some 13, none, .call (.func 77) [(.tmp 11), (.tmp 12)]⟩,
 ⟨some 6, none, .mov (.tmp 13)⟩])
 .ret)
 .skip))
 (.seq (.draw [⟨some 14, none, .mov (.tmp 0)⟩,
 ⟨some 15, none, .mov (.tmp 0)⟩,
 ⟨some 16, none, .nilck (.tmp 15)⟩,
 ⟨some 17, none, .fad (.tmp 16) 0⟩,
 ⟨some 18, none, .ld1 (.tmp 17)⟩,
 ⟨some 19, none, .nilck (.tmp 18)⟩,
 ⟨some 20, none, .fad (.tmp 19) 0⟩,
 ⟨some 21, none, .ld1 (.tmp 20)⟩,
 ⟨some 22, none, .mov (.tmp 1)⟩,
 ⟨some 23, none, .iad 7 (.tmp 21) (.tmp 22)⟩,
 ⟨some 24, none, .fad (.tmp 23) 0⟩,
 ⟨some 25, none, .ld1 (.tmp 24)⟩,
 ⟨some 26, none, .nilck (.tmp 14)⟩,
 ⟨some 27, none, .fad (.tmp 26) 2⟩,
 ⟨some 28, none, .iaa 25 1 (.tmp 27) (.tmp 25)⟩,
 ⟨some 29, none, .ld1 (.tmp 28)⟩,
 ⟨some 30, none, .mov (.tmp 1)⟩,
 ⟨some 31, none, .mov (.tmp 2)⟩,
 ⟨some 32, none, .call (.tmp 29) [(.tmp 30), (.tmp 31)]⟩,
 ⟨some 6, none, .mov (.tmp 32)⟩] [(0, 1), (0, 2), (0, 3), (0, 4), (0, 5), (0, 6), (0, 7), (0, 8), (1, 8), (2, 8), (3, 8), (4, 8), (5, 8), (6, 8), (7, 8), (0, 9), (0, 10), (0, 11), (1, 12), (2, 12), (3, 12), (4, 12), (5, 12), (6, 12), (7, 12), (8, 12), (9, 12), (10, 12), (11, 12), (1, 13), (2, 13), (3, 13), (4, 13), (5, 13), (6, 13), (7, 13), (8, 13), (9, 13), (10, 13), (11, 13), (0, 16), (1, 16), (2, 16), (3, 16), (4, 16), (5, 16), (6, 16), (7, 16), (8, 16), (9, 16), (10, 16), (11, 16), (12, 16), (13, 16), (14, 16), (15, 16), (0, 17), (1, 17), (2, 17), (3, 17), (4, 17), (5, 17), (6, 17), (7, 17), (8, 17), (9, 17), (10, 17), (11, 17), (12, 17), (13, 17), (14, 17), (15, 17), (16, 17)])
 .ret)))⟩
theorem ok36 : compF Tryz.prog Tryz.f36 = some c36 := by kernel_rfl
def c37 : CF := ⟨128, [.tmp 4, .tmp 5],
 (.seq (.ops [⟨some 4, none, .mov (.const (.int .i64 0))⟩,
 ⟨some 5, none, .mov (.const (.int .i64 0))⟩])
 (.seq (.block 0 (.seq (.ops [⟨some 15, none, .mov (.tmp 0)⟩,
 ⟨some 16, none, .lnl (.tmp 15)⟩,
 ⟨some 17, none, .bin .eql (.tmp 16) (.const (.int .i64 0))⟩,
 ⟨some 14, none, .mov (.tmp 17)⟩])
 (.cond (.tmp 14)
 (.seq (.ops [⟨some 4, none, .mov (.const (.int .i64 0))⟩,
 ⟨some 5, none, .mov (.const (.int .i64 6))⟩])
 .ret)
 (.seq (.ops [⟨some 19, none, .mov (.tmp 0)⟩,
 ⟨some 20, none, .lnl (.tmp 19)⟩,
 ⟨some 21, none, .bin .gtr (.tmp 20) (.const (.int .i64 2000))⟩,
 ⟨some 18, none, .mov (.tmp 21)⟩])
 (.cond (.tmp 18)
 (.seq (.ops [⟨some 4, none, .mov (.const (.int .i64 0))⟩,
 ⟨some 5, none, .mov (.const (.int .i64 3))⟩])
 .ret)
 .skip)))))
 (.seq (.ops [⟨some 22, none, .lits [(.int .i64 0)] 1 [(0, 1, (.const (.int .i64 1)))]⟩,
 ⟨some 6, none, .mov (.tmp 22)⟩])
 (.seq (.seq (.ops [⟨some 23, none, .mov (.tmp 0)⟩,
 ⟨some 24, none, .lnl (.tmp 23)⟩,
 ⟨some 25, none, .mov (.const (.int .i64 0))⟩])
 (.block 1 (.loop (.seq (.ops [⟨some 26, none, .bin .lss (.tmp 25) (.tmp 24)⟩])
 (.seq (.cond (.tmp 26)
 .skip
 (.exit 1))
 (.seq (.block 2 (.seq (.ops [⟨some 27, none, .mov (.tmp 25)⟩,
 ⟨some 28, none, .iad 6 (.tmp 23) (.tmp 25)⟩,
 ⟨some 29, none, .ld 6 (.tmp 28)⟩,
 ⟨some 8, none, .newz [(.int .i64 0), (.int .i64 0), (.int .i64 0), (.string ⟨#[]⟩), (.int .i32 0), (.int .i32 0)]⟩,
 ⟨some 7, none, .mov (.tmp 27)⟩,
 ⟨none, none, .st 6 (.tmp 8) (.tmp 29)⟩])
 (.seq (.block 3 (.loop (.seq (.seq (.ops [⟨some 30, none, .mov (.tmp 6)⟩,
 ⟨some 31, none, .lnl (.tmp 30)⟩,
 ⟨some 32, none, .bin .gtr (.tmp 31) (.const (.int .i64 0))⟩,
 ⟨some 33, none, .mov (.tmp 32)⟩,
 ⟨some 34, (some (33, true)), .mov (.tmp 6)⟩,
 ⟨some 35, (some (33, true)), .mov (.tmp 6)⟩,
 ⟨some 36, (some (33, true)), .lnl (.tmp 35)⟩,
 ⟨some 37, (some (33, true)), .bin .sub (.tmp 36) (.const (.int .i64 1))⟩,
 ⟨some 38, (some (33, true)), .iad 1 (.tmp 34) (.tmp 37)⟩,
 ⟨some 39, (some (33, true)), .ld1 (.tmp 38)⟩,
 ⟨some 40, (some (33, true)), .bin .eql (.tmp 39) (.const (.int .i64 0))⟩,
 ⟨some 41, none, .pick (.tmp 33) (.tmp 40) (.const (.bool false))⟩])
 (.cond (.tmp 41)
 .skip
 (.exit 3)))
 (.block 4 (.ops [⟨some 42, none, .mov (.tmp 6)⟩,
 ⟨some 43, none, .mov (.tmp 6)⟩,
 ⟨some 44, none, .lnl (.tmp 43)⟩,
 ⟨some 45, none, .bin .sub (.tmp 44) (.const (.int .i64 1))⟩,
 ⟨some 46, none, .sl 1 (.tmp 42) none (some (.tmp 45)) none⟩,
 ⟨some 6, none, .mov (.tmp 46)⟩])))))
 (.seq (.block 5 (.seq (.ops [⟨some 48, none, .mov (.tmp 6)⟩,
 ⟨some 49, none, .lnl (.tmp 48)⟩,
 ⟨some 50, none, .bin .eql (.tmp 49) (.const (.int .i64 0))⟩,
 ⟨some 51, none, .mov (.tmp 50)⟩,
 ⟨some 52, (some (51, false)), .fad (.tmp 8) 0⟩,
 ⟨some 53, (some (51, false)), .ld1 (.tmp 52)⟩,
 ⟨some 54, (some (51, false)), .bin .lss (.tmp 53) (.const (.int .i64 1))⟩,
 ⟨some 55, none, .pick (.tmp 51) (.const (.bool true)) (.tmp 54)⟩,
 ⟨some 56, none, .mov (.tmp 55)⟩,
 ⟨some 57, (some (56, false)), .fad (.tmp 8) 0⟩,
 ⟨some 58, (some (56, false)), .ld1 (.tmp 57)⟩,
 ⟨some 59, (some (56, false)), .bin .gtr (.tmp 58) (.const (.int .i64 12))⟩,
 ⟨some 60, none, .pick (.tmp 56) (.const (.bool true)) (.tmp 59)⟩,
 ⟨some 61, none, .mov (.tmp 60)⟩,
 ⟨some 62, (some (61, false)), .fad (.tmp 8) 1⟩,
 ⟨some 63, (some (61, false)), .ld1 (.tmp 62)⟩,
 ⟨some 64, (some (61, false)), .bin .lss (.tmp 63) (.const (.int .i64 0))⟩,
 ⟨some 65, none, .pick (.tmp 61) (.const (.bool true)) (.tmp 64)⟩,
 ⟨some 47, none, .mov (.tmp 65)⟩])
 (.cond (.tmp 47)
 (.seq (.ops [⟨some 66, none, .mov (.tmp 7)⟩,
 ⟨some 4, none, .mov (.tmp 66)⟩,
 ⟨some 5, none, .mov (.const (.int .i64 6))⟩])
 .ret)
 (.seq (.ops [⟨some 68, none, .mov (.tmp 6)⟩,
 ⟨some 69, none, .lnl (.tmp 68)⟩,
 ⟨some 70, none, .bin .gtr (.tmp 69) (.const (.int .i64 201))⟩,
 ⟨some 67, none, .mov (.tmp 70)⟩])
 (.cond (.tmp 67)
 (.seq (.ops [⟨some 71, none, .mov (.tmp 7)⟩,
 ⟨some 4, none, .mov (.tmp 71)⟩,
 ⟨some 5, none, .mov (.const (.int .i64 3))⟩])
 .ret)
 .skip)))))
 (.seq (.seq (.ops [⟨some 72, none, .ld 6 (.tmp 8)⟩,
 ⟨some 73, none, .call (.func 78) [(.tmp 72)]⟩,
 ⟨some 9, none, .mov (.tmp 73)⟩])
 (.seq (.ops [⟨some 74, none, .mov (.tmp 9)⟩,
 ⟨some 75, none, .bin .neq (.tmp 74) (.const (.int .i64 0))⟩])
 (.cond (.tmp 75)
 (.seq (.ops [⟨some 76, none, .mov (.tmp 7)⟩,
 ⟨some 77, none, .mov (.tmp 9)⟩,
 ⟨some 4, none, .mov (.tmp 76)⟩,
 ⟨some 5, none, .mov (.tmp 77)⟩])
 .ret)
 .skip)))
 (.seq (.seq (.ops [⟨some 78, none, .ld 6 (.tmp 8)⟩,
 ⟨some 79, none, .mov (.tmp 1)⟩,
 ⟨some 80, none, .call (.func 79) [(.tmp 78), (.tmp 79)]⟩,
 ⟨some 10, none, .mov (.tmp 80)⟩])
 (.seq (.ops [⟨some 81, none, .mov (.tmp 10)⟩,
 ⟨some 82, none, .bin .neq (.tmp 81) (.const (.int .i64 0))⟩])
 (.cond (.tmp 82)
 (.seq (.ops [⟨some 83, none, .mov (.tmp 7)⟩,
 ⟨some 84, none, .mov (.tmp 10)⟩,
 ⟨some 4, none, .mov (.tmp 83)⟩,
 ⟨some 5, none, .mov (.tmp 84)⟩])
 .ret)
 .skip)))
 (.seq (.ops [⟨some 85, none, .mov (.tmp 6)⟩,
 ⟨some 86, none, .mov (.tmp 6)⟩,
 ⟨some 87, none, .lnl (.tmp 86)⟩,
 ⟨some 88, none, .bin .sub (.tmp 87) (.const (.int .i64 1))⟩,
 ⟨some 89, none, .iad 1 (.tmp 85) (.tmp 88)⟩,
 ⟨some 90, none, .ld1 (.tmp 89)⟩,
 ⟨some 91, none, .bin .sub (.tmp 90) (.const (.int .i64 1))⟩,
 ⟨some 92, none, .iad 1 (.tmp 85) (.tmp 88)⟩,
 ⟨none, none, .st 1 (.tmp 92) (.tmp 91)⟩])
 (.ops [⟨some 93, none, .mov (.tmp 6)⟩,
 ⟨some 94, none, .fad (.tmp 8) 1⟩,
 ⟨some 95, none, .ld1 (.tmp 94)⟩,
 ⟨some 96, none, .lits [(.int .i64 0)] 1 [(0, 1, (.tmp 95))]⟩,
 ⟨some 97, none, .app 1 8 none (.tmp 93) (.tmp 96)⟩,
 ⟨some 6, none, .mov (.tmp 97)⟩]))))))))
 (.ops [⟨some 98, none, .bin .add (.tmp 25) (.const (.int .i64 1))⟩,
 ⟨some 25, none, .mov (.tmp 98)⟩])))))))
 (.seq (.block 6 (.seq (.ops [⟨some 100, none, .mov (.tmp 6)⟩,
 ⟨some 101, none, .call (.func 80) [(.tmp 100)]⟩,
 ⟨some 102, none, .bin .gtr (.tmp 101) (.const (.int .i64 0))⟩,
 ⟨some 99, none, .mov (.tmp 102)⟩])
 (.cond (.tmp 99)
 (.seq (.ops [⟨some 103, none, .mov (.tmp 0)⟩,
 ⟨some 104, none, .lnl (.tmp 103)⟩,
 ⟨some 4, none, .mov (.tmp 104)⟩,
 ⟨some 5, none, .mov (.const (.int .i64 6))⟩])
 .ret)
 (.seq (.ops [⟨some 106, none, .mov (.tmp 0)⟩,
 ⟨some 107, none, .iad 6 (.tmp 106) (.const (.int .i64 0))⟩,
 ⟨some 108, none, .fad (.tmp 107) 0⟩,
 ⟨some 109, none, .ld1 (.tmp 108)⟩,
 ⟨some 110, none, .bin .eql (.tmp 109) (.const (.int .i64 12))⟩,
 ⟨some 105, none, .mov (.tmp 110)⟩])
 (.cond (.tmp 105)
 (.seq (.ops [⟨some 4, none, .mov (.const (.int .i64 0))⟩,
 ⟨some 5, none, .mov (.const (.int .i64 6))⟩])
 .ret)
 .skip)))))
 (.seq (.ops [⟨some 111, none, .mov (.tmp 0)⟩,
 ⟨some 112, none, .call (.func 81) [(.tmp 111)]⟩,
 ⟨some 11, none, .mov (.tmp 112)⟩])
 (.seq (.seq (.ops [⟨some 113, none, .mov (.tmp 0)⟩,
 ⟨some 114, none, .lnl (.tmp 113)⟩,
 ⟨some 115, none, .mov (.const (.int .i64 0))⟩])
 (.block 7 (.loop (.seq (.ops [⟨some 116, none, .bin .lss (.tmp 115) (.tmp 114)⟩])
 (.seq (.cond (.tmp 116)
 .skip
 (.exit 7))
 (.seq (.block 8 (.seq (.ops [⟨some 117, none, .mov (.tmp 115)⟩,
 ⟨some 12, none, .mov (.tmp 117)⟩])
 (.seq (.ops [⟨some 118, none, .mov (.tmp 0)⟩,
 ⟨some 119, none, .mov (.tmp 11)⟩,
 ⟨some 120, none, .mov (.tmp 12)⟩,
 ⟨some 121, none, .mov (.tmp 1)⟩,
 ⟨some 122, none, .call (.func 82) [(.tmp 118), (.tmp 119), (.tmp 120), (.tmp 121)]⟩,
 ⟨some 13, none, .mov (.tmp 122)⟩])
 (.seq (.ops [⟨some 123, none, .mov (.tmp 13)⟩,
 ⟨some 124, none, .bin .neq (.tmp 123) (.const (.int .i64 0))⟩])
 (.cond (.tmp 124)
 (.seq (.ops [⟨some 125, none, .mov (.tmp 12)⟩,
 ⟨some 126, none, .mov (.tmp 13)⟩,
 ⟨some 4, none, .mov (.tmp 125)⟩,
 ⟨some 5, none, .mov (.tmp 126)⟩])
 .ret)
 .skip)))))
 (.ops [⟨some 127, none, .bin .add (.tmp 115) (.const (.int .i64 1))⟩,
 ⟨some 115, none, .mov (.tmp 127)⟩])))))))
 (.seq (.ops [⟨some 4, none, .mov (.const (.int .i64 0))⟩,
 ⟨some 5, none, .mov (.const (.int .i64 0))⟩])
 .ret))))))))⟩
theorem ok37 : compF Tryz.prog Tryz.f37 = some c37 := by kernel_rfl
def c38 : CF := ⟨21, [.tmp 4],
 (.seq (.ops [⟨some 4, none, .mov (.const (.int .i64 0))⟩])
 (.seq (.seq (.ops [⟨some 8, none, .mov (.tmp 0)⟩,
 ⟨some 9, none, .call (.func 37) [(.tmp 8), (.const (.bool false))]⟩,
 ⟨some 7, none, .mov (.tmp 9)⟩,
 ⟨some 10, none, .ext (.tmp 7) 0⟩,
 ⟨some 11, none, .ext (.tmp 7) 1⟩,
 ⟨some 5, none, .mov (.tmp 10)⟩,
 ⟨some 6, none, .mov (.tmp 11)⟩])
 (.seq (.ops [⟨some 12, none, .mov (.tmp 6)⟩,
 ⟨some 13, none, .bin .neq (.tmp 12) (.const (.int .i64 0))⟩])
 (.cond (.tmp 13)
 (.seq (.ops [⟨some 14, none, .mov (.tmp 6)⟩,
 ⟨some 4, none, .mov (.tmp 14)⟩])
 .ret)
 .skip)))
 (.seq (.seq (.ops [⟨some 15, none, .mov (.tmp 1)⟩,
 ⟨some 16, none, .bin .lss (.tmp 15) (.const (.int .i64 0))⟩,
 ⟨some 17, none, .mov (.tmp 16)⟩,
 ⟨some 18, (some (17, false)), .mov (.tmp 1)⟩,
 ⟨some 19, (some (17, false)), .bin .gtr (.tmp 18) (.const (.int .i64 1000))⟩,
 ⟨some 20, none, .pick (.tmp 17) (.const (.bool true)) (.tmp 19)⟩])
 (.cond (.tmp 20)
 (.seq (.ops [⟨some 4, none, .mov (.const (.int .i64 7))⟩])
 .ret)
 .skip))
 (.seq (.ops [⟨some 4, none, .mov (.const (.int .i64 0))⟩])
 .ret))))⟩
theorem ok38 : compF Tryz.prog Tryz.f38 = some c38 := by kernel_rfl
def c39 : CF := ⟨8, [.tmp 6],
 (.seq (.ops [⟨some 3, none, .box (.tmp 0)⟩,
 ⟨some 4, none, .box (.tmp 1)⟩,
 ⟨some 5, none, .box (.tmp 2)⟩,
 ⟨some 6, none, .mov (.const .nilFunc)⟩])
 (.seq (.ops [⟨some 7, none, .fn 83 [] [(.tmp 3), (.tmp 4), (.tmp 5)]⟩,
 ⟨some 6, none, .mov (.tmp 7)⟩])
 .ret))⟩
theorem ok39 : compF Tryz.prog Tryz.f39 = some c39 := by kernel_rfl
def c40 : CF := ⟨8, [.tmp 2],
 (.seq (.ops [⟨some 2, none, .mov (.const (.slice none 0 0))⟩])
 (.seq (.seq (.ops [⟨some 3, none, .mov (.tmp 0)⟩,
 ⟨some 4, none, .eqn 1 false true (.tmp 3) (.const (.slice none 0 0))⟩])
 (.cond (.tmp 4)
 (.seq (.ops [⟨some 2, none, .mov (.const (.slice none 0 0))⟩])
 .ret)
 .skip))
 (.seq (.ops [⟨some 5, none, .lits [] 0 []⟩,
 ⟨some 6, none, .mov (.tmp 0)⟩,
 ⟨some 7, none, .app 6 48 none (.tmp 5) (.tmp 6)⟩,
 ⟨some 2, none, .mov (.tmp 7)⟩])
 .ret)))⟩
theorem ok40 : compF Tryz.prog Tryz.f40 = some c40 := by kernel_rfl
def c41 : CF := ⟨15, [.cells 3 3],
 (.seq (.ops [⟨some 2, none, .box (.tmp 0)⟩,
 ⟨some 3, none, .newz [(.int .i64 0), (.int .i64 0), (.int .i64 0)]⟩])
 (.seq (.ops [⟨some 5, none, .ld1 (.tmp 1)⟩,
 ⟨some 6, none, .fad (.tmp 2) 5⟩,
 ⟨some 7, none, .ld1 (.tmp 6)⟩,
 ⟨some 8, none, .iad 7 (.tmp 5) (.tmp 7)⟩,
 ⟨some 9, none, .ld 7 (.tmp 8)⟩,
 ⟨some 4, none, .newz [(.int .i64 0), (.int .i64 0), (.int .i64 0), (.string ⟨#[]⟩), (.int .i64 0), (.int .i64 0), (.int .i64 0)]⟩,
 ⟨none, none, .st 7 (.tmp 4) (.tmp 9)⟩])
 (.seq (.ops [⟨some 10, none, .fad (.tmp 4) 4⟩,
 ⟨some 11, none, .ld 2 (.tmp 10)⟩,
 ⟨some 12, none, .fad (.tmp 4) 6⟩,
 ⟨some 13, none, .ld1 (.tmp 12)⟩,
 ⟨some 14, none, .agg [(.int .i64 0), (.int .i64 0), (.int .i64 0)] [(0, 2, (.tmp 11)), (2, 1, (.tmp 13))]⟩,
 ⟨none, none, .st 3 (.tmp 3) (.tmp 14)⟩])
 .ret)))⟩
theorem ok41 : compF Tryz.prog Tryz.f41 = some c41 := by kernel_rfl
def c42 : CF := ⟨134, [.tmp 2, .tmp 3],
 (.seq (.ops [⟨some 2, none, .mov (.const (.pointer none))⟩,
 ⟨some 3, none, .mov (.const (.int .i64 0))⟩])
 (.seq (.seq (.ops [⟨some 13, none, .mov (.tmp 0)⟩,
 ⟨some 14, none, .call (.func 37) [(.tmp 13), (.const (.bool false))]⟩,
 ⟨some 12, none, .mov (.tmp 14)⟩,
 ⟨some 15, none, .ext (.tmp 12) 0⟩,
 ⟨some 16, none, .ext (.tmp 12) 1⟩,
 ⟨some 4, none, .mov (.tmp 15)⟩,
 ⟨some 5, none, .mov (.tmp 16)⟩])
 (.seq (.ops [⟨some 17, none, .mov (.tmp 5)⟩,
 ⟨some 18, none, .bin .neq (.tmp 17) (.const (.int .i64 0))⟩])
 (.cond (.tmp 18)
 (.seq (.ops [⟨some 19, none, .mov (.tmp 5)⟩,
 ⟨some 2, none, .mov (.const (.pointer none))⟩,
 ⟨some 3, none, .mov (.tmp 19)⟩])
 .ret)
 .skip)))
 (.seq (.seq (.ops [⟨some 21, none, .mov (.tmp 0)⟩,
 ⟨some 22, none, .call (.func 84) [(.tmp 21), (.const (.bool false))]⟩,
 ⟨some 20, none, .mov (.tmp 22)⟩,
 ⟨some 23, none, .ext (.tmp 20) 0⟩,
 ⟨some 24, none, .ext (.tmp 20) 1⟩,
 ⟨some 6, none, .mov (.tmp 23)⟩,
 ⟨some 7, none, .mov (.tmp 24)⟩])
 (.seq (.ops [⟨some 25, none, .mov (.tmp 6)⟩,
 ⟨some 26, none, .lnl (.tmp 25)⟩,
 ⟨some 27, none, .bin .gtr (.tmp 26) (.const (.int .i64 0))⟩])
 (.cond (.tmp 27)
 (.seq (.ops [⟨some 2, none, .mov (.const (.pointer none))⟩,
 ⟨some 3, none, .mov (.const (.int .i64 10))⟩])
 .ret)
 .skip)))
 (.seq (.draw [⟨some 28, none, .mov (.tmp 0)⟩,
 ⟨some 29, none, .mov (.tmp 0)⟩,
 ⟨some 30, none, .lnl (.tmp 29)⟩,
 ⟨some 31, none, .mks 8 [(.int .i64 0)] (.tmp 30) (.tmp 30)⟩,
 ⟨some 32, none, .mov (.tmp 0)⟩,
 ⟨some 33, none, .lnl (.tmp 32)⟩,
 ⟨some 34, none, .mks 1 [(.bool false)] (.tmp 33) (.tmp 33)⟩,
 ⟨some 35, none, .agg [(.slice none 0 0), (.slice none 0 0), (.slice none 0 0), (.slice none 0 0), (.slice none 0 0), (.int .i64 0)] [(0, 1, (.tmp 28)), (1, 1, (.tmp 31)), (2, 1, (.tmp 34))]⟩,
 ⟨some 36, none, .box (.tmp 35)⟩,
 ⟨some 8, none, .mov (.tmp 36)⟩] [(0, 1), (0, 2), (0, 3), (0, 4), (1, 4), (2, 4), (3, 4), (0, 5), (1, 5), (2, 5), (3, 5), (0, 6), (1, 6), (2, 6), (3, 6)])
 (.seq (.seq (.ops [⟨some 37, none, .mov (.tmp 0)⟩,
 ⟨some 38, none, .lnl (.tmp 37)⟩,
 ⟨some 39, none, .bin .sub (.tmp 38) (.const (.int .i64 1))⟩,
 ⟨some 9, none, .mov (.tmp 39)⟩])
 (.block 0 (.loop (.seq (.seq (.ops [⟨some 40, none, .mov (.tmp 9)⟩,
 ⟨some 41, none, .bin .geq (.tmp 40) (.const (.int .i64 0))⟩])
 (.cond (.tmp 41)
 .skip
 (.exit 0)))
 (.seq (.block 1 (.seq (.ops [⟨some 44, none, .mov (.tmp 9)⟩,
 ⟨some 45, none, .bin .add (.tmp 44) (.const (.int .i64 1))⟩,
 ⟨some 10, none, .mov (.tmp 45)⟩])
 (.seq (.seq (.ops [⟨some 46, none, .mov (.tmp 0)⟩,
 ⟨some 47, none, .mov (.tmp 9)⟩,
 ⟨some 48, none, .iad 6 (.tmp 46) (.tmp 47)⟩,
 ⟨some 49, none, .fad (.tmp 48) 1⟩,
 ⟨some 50, none, .ld1 (.tmp 49)⟩,
 ⟨some 51, none, .mov (.const (.int .i64 0))⟩])
 (.block 2 (.loop (.seq (.ops [⟨some 52, none, .bin .lss (.tmp 51) (.tmp 50)⟩])
 (.seq (.cond (.tmp 52)
 .skip
 (.exit 2))
 (.seq (.block 3 (.ops [⟨some 53, none, .mov (.tmp 8)⟩,
 ⟨some 54, none, .nilck (.tmp 53)⟩,
 ⟨some 55, none, .fad (.tmp 54) 1⟩,
 ⟨some 56, none, .ld1 (.tmp 55)⟩,
 ⟨some 57, none, .mov (.tmp 10)⟩,
 ⟨some 58, none, .iad 1 (.tmp 56) (.tmp 57)⟩,
 ⟨some 59, none, .ld1 (.tmp 58)⟩,
 ⟨some 10, none, .mov (.tmp 59)⟩]))
 (.ops [⟨some 60, none, .bin .add (.tmp 51) (.const (.int .i64 1))⟩,
 ⟨some 51, none, .mov (.tmp 60)⟩])))))))
 (.seq (.ops [⟨some 61, none, .mov (.tmp 8)⟩,
 ⟨some 62, none, .nilck (.tmp 61)⟩,
 ⟨some 63, none, .fad (.tmp 62) 1⟩,
 ⟨some 64, none, .ld1 (.tmp 63)⟩,
 ⟨some 65, none, .mov (.tmp 9)⟩,
 ⟨some 66, none, .mov (.tmp 10)⟩,
 ⟨some 67, none, .iad 1 (.tmp 64) (.tmp 65)⟩,
 ⟨none, none, .st 1 (.tmp 67) (.tmp 66)⟩])
 (.seq (.ops [⟨some 68, none, .mov (.tmp 0)⟩,
 ⟨some 69, none, .mov (.tmp 9)⟩,
 ⟨some 70, none, .iad 6 (.tmp 68) (.tmp 69)⟩,
 ⟨some 71, none, .fad (.tmp 70) 0⟩,
 ⟨some 72, none, .ld1 (.tmp 71)⟩])
 (.block 4 (.seq (.seq (.ops [⟨some 74, none, .bin .eql (.tmp 72) (.const (.int .i64 1))⟩,
 ⟨some 73, none, .mov (.tmp 74)⟩])
 (.cond (.tmp 73)
 .skip
 (.seq (.ops [⟨some 75, none, .bin .eql (.tmp 72) (.const (.int .i64 2))⟩,
 ⟨some 73, none, .mov (.tmp 75)⟩])
 (.cond (.tmp 73)
 .skip
 (.seq (.ops [⟨some 76, none, .bin .eql (.tmp 72) (.const (.int .i64 3))⟩,
 ⟨some 73, none, .mov (.tmp 76)⟩])
 (.cond (.tmp 73)
 .skip
 (.ops [⟨some 77, none, .bin .eql (.tmp 72) (.const (.int .i64 4))⟩,
 ⟨some 73, none, .mov (.tmp 77)⟩])))))))
 (.cond (.tmp 73)
 (.ops [⟨some 78, none, .mov (.tmp 8)⟩,
 ⟨some 79, none, .nilck (.tmp 78)⟩,
 ⟨some 80, none, .fad (.tmp 79) 2⟩,
 ⟨some 81, none, .ld1 (.tmp 80)⟩,
 ⟨some 82, none, .mov (.tmp 9)⟩,
 ⟨some 83, none, .iad 1 (.tmp 81) (.tmp 82)⟩,
 ⟨none, none, .st 1 (.tmp 83) (.const (.bool true))⟩])
 (.seq (.ops [⟨some 85, none, .bin .eql (.tmp 72) (.const (.int .i64 5))⟩,
 ⟨some 84, none, .mov (.tmp 85)⟩])
 (.cond (.tmp 84)
 (.seq (.ops [⟨some 86, none, .mov (.tmp 8)⟩,
 ⟨some 87, none, .nilck (.tmp 86)⟩,
 ⟨some 88, none, .fad (.tmp 87) 1⟩,
 ⟨some 89, none, .ld1 (.tmp 88)⟩,
 ⟨some 90, none, .mov (.tmp 9)⟩,
 ⟨some 91, none, .bin .add (.tmp 90) (.const (.int .i64 1))⟩,
 ⟨some 92, none, .iad 1 (.tmp 89) (.tmp 91)⟩,
 ⟨some 93, none, .ld1 (.tmp 92)⟩,
 ⟨some 11, none, .mov (.tmp 93)⟩])
 (.draw [⟨some 94, none, .mov (.tmp 8)⟩,
 ⟨some 95, none, .nilck (.tmp 94)⟩,
 ⟨some 96, none, .fad (.tmp 95) 2⟩,
 ⟨some 97, none, .ld1 (.tmp 96)⟩,
 ⟨some 98, none, .mov (.tmp 9)⟩,
 ⟨some 99, none, .mov (.tmp 8)⟩,
 ⟨some 100, none, .nilck (.tmp 99)⟩,
 ⟨some 101, none, .fad (.tmp 100) 2⟩,
 ⟨some 102, none, .ld1 (.tmp 101)⟩,
 ⟨some 103, none, .mov (.tmp 9)⟩,
 ⟨some 104, none, .bin .add (.tmp 103) (.const (.int .i64 1))⟩,
 ⟨some 105, none, .iad 1 (.tmp 102) (.tmp 104)⟩,
 ⟨some 106, none, .ld1 (.tmp 105)⟩,
 ⟨some 107, none, .mov (.tmp 106)⟩,
 ⟨some 108, (some (107, true)), .mov (.tmp 8)⟩,
 ⟨some 109, (some (107, true)), .nilck (.tmp 108)⟩,
 ⟨some 110, (some (107, true)), .fad (.tmp 109) 2⟩,
 ⟨some 111, (some (107, true)), .ld1 (.tmp 110)⟩,
 ⟨some 112, (some (107, true)), .mov (.tmp 11)⟩,
 ⟨some 113, (some (107, true)), .iad 1 (.tmp 111) (.tmp 112)⟩,
 ⟨some 114, (some (107, true)), .ld1 (.tmp 113)⟩,
 ⟨some 115, none, .pick (.tmp 107) (.tmp 114) (.const (.bool false))⟩,
 ⟨some 116, none, .mov (.tmp 115)⟩,
 ⟨some 117, (some (116, true)), .mov (.tmp 0)⟩,
 ⟨some 118, (some (116, true)), .mov (.tmp 11)⟩,
 ⟨some 119, (some (116, true)), .iad 6 (.tmp 117) (.tmp 118)⟩,
 ⟨some 120, (some (116, true)), .fad (.tmp 119) 0⟩,
 ⟨some 121, (some (116, true)), .ld1 (.tmp 120)⟩,
 ⟨some 122, (some (116, true)), .bin .eql (.tmp 121) (.const (.int .i64 4))⟩,
 ⟨some 123, (some (116, true)), .mov (.tmp 122)⟩,
 ⟨some 124, (some (123, false)), .mov (.tmp 0)⟩,
 ⟨some 125, (some (123, false)), .mov (.tmp 11)⟩,
 ⟨some 126, (some (123, false)), .iad 6 (.tmp 124) (.tmp 125)⟩,
 ⟨some 127, (some (123, false)), .fad (.tmp 126) 0⟩,
 ⟨some 128, (some (123, false)), .ld1 (.tmp 127)⟩,
 ⟨some 129, (some (123, false)), .bin .eql (.tmp 128) (.const (.int .i64 5))⟩,
 ⟨some 130, (some (116, true)), .pick (.tmp 123) (.const (.bool true)) (.tmp 129)⟩,
 ⟨some 131, none, .pick (.tmp 116) (.tmp 130) (.const (.bool false))⟩,
 ⟨some 132, none, .iad 1 (.tmp 97) (.tmp 98)⟩,
 ⟨none, none, .st 1 (.tmp 132) (.tmp 131)⟩] [(0, 4), (1, 4), (2, 4), (3, 4), (0, 5), (1, 5), (2, 5), (3, 5), (4, 5), (0, 6), (1, 6), (2, 6), (3, 6), (4, 6), (0, 7), (1, 7), (2, 7), (3, 7), (4, 7), (0, 8), (1, 8), (2, 8), (3, 8), (4, 8), (0, 9), (1, 9), (2, 9), (3, 9), (4, 9), (5, 9), (6, 9), (7, 9), (8, 9), (0, 10), (1, 10), (2, 10), (3, 10), (4, 10), (5, 10), (6, 10), (7, 10), (8, 10), (0, 11), (1, 11), (2, 11), (3, 11), (4, 11), (0, 12), (1, 12), (2, 12), (3, 12), (4, 12), (0, 13), (1, 13), (2, 13), (3, 13), (4, 13), (0, 14), (1, 14), (2, 14), (3, 14), (4, 14), (0, 15), (1, 15), (2, 15), (3, 15), (4, 15), (0, 16), (1, 16), (2, 16), (3, 16), (4, 16), (0, 17), (1, 17), (2, 17), (3, 17), (4, 17), (0, 18), (1, 18), (2, 18), (3, 18), (4, 18), (14, 18), (15, 18), (16, 18), (17, 18), (0, 19), (1, 19), (2, 19), (3, 19), (4, 19), (0, 20), (1, 20), (2, 20), (3, 20), (4, 20), (0, 21), (1, 21), (2, 21), (3, 21), (4, 21), (0, 22), (1, 22), (2, 22), (3, 22), (4, 22), (0, 23), (1, 23), (2, 23), (3, 23), (4, 23), (0, 24), (1, 24), (2, 24), (3, 24), (4, 24), (23, 24), (0, 25), (1, 25), (2, 25), (3, 25), (4, 25), (0, 26), (1, 26), (2, 26), (3, 26), (4, 26), (0, 27), (1, 27), (2, 27), (3, 27), (4, 27), (0, 28), (1, 28), (2, 28), (3, 28), (4, 28), (0, 29), (1, 29), (2, 29), (3, 29), (4, 29), (0, 30), (1, 30), (2, 30), (3, 30), (4, 30), (0, 31), (1, 31), (2, 31), (3, 31), (4, 31), (30, 31), (0, 32), (1, 32), (2, 32), (3, 32), (4, 32), (0, 33), (1, 33), (2, 33), (3, 33), (4, 33), (0, 34), (1, 34), (2, 34), (3, 34), (4, 34), (0, 35), (1, 35), (2, 35), (3, 35), (4, 35), (0, 36), (1, 36), (2, 36), (3, 36), (4, 36), (0, 37), (1, 37), (2, 37), (3, 37), (4, 37)]))
 .skip))))))))))
 (.ops [⟨some 42, none, .mov (.tmp 9)⟩,
 ⟨some 43, none, .bin .sub (.tmp 42) (.const (.int .i64 1))⟩,
 ⟨some 9, none, .mov (.tmp 43)⟩]))))))
 (.seq (.ops [⟨some 133, none, .mov (.tmp 8)⟩,
 ⟨some 2, none, .mov (.tmp 133)⟩,
 ⟨some 3, none, .mov (.const (.int .i64 0))⟩])
 .ret))))))⟩
theorem ok42 : compF Tryz.prog Tryz.f42 = some c42 := by kernel_rfl
def c44 : CF := ⟨21, [.tmp 2, .tmp 3],
 (.seq (.ops [⟨some 2, none, .mov (.const (.int .i64 0))⟩,
 ⟨some 3, none, .mov (.const (.int .i64 0))⟩])
 (.seq (.seq (.ops [⟨some 7, none, .mov (.tmp 0)⟩,
 ⟨some 8, none, .call (.func 37) [(.tmp 7), (.const (.bool false))]⟩,
 ⟨some 6, none, .mov (.tmp 8)⟩,
 ⟨some 9, none, .ext (.tmp 6) 0⟩,
 ⟨some 10, none, .ext (.tmp 6) 1⟩,
 ⟨some 4, none, .mov (.tmp 9)⟩,
 ⟨some 5, none, .mov (.tmp 10)⟩])
 (.seq (.ops [⟨some 11, none, .mov (.tmp 5)⟩,
 ⟨some 12, none, .bin .neq (.tmp 11) (.const (.int .i64 0))⟩])
 (.cond (.tmp 12)
 (.seq (.ops [⟨some 13, none, .mov (.tmp 5)⟩,
 ⟨some 2, none, .mov (.const (.int .i64 0))⟩,
 ⟨some 3, none, .mov (.tmp 13)⟩])
 .ret)
 .skip)))
 (.seq (.seq (.ops [⟨some 14, none, .mov (.tmp 0)⟩,
 ⟨some 15, none, .iad 6 (.tmp 14) (.const (.int .i64 0))⟩,
 ⟨some 16, none, .fad (.tmp 15) 0⟩,
 ⟨some 17, none, .ld1 (.tmp 16)⟩,
 ⟨some 18, none, .call (.func 87) [(.tmp 17)]⟩])
 (.cond (.tmp 18)
 (.seq (.ops [⟨some 2, none, .mov (.const (.int .i64 0))⟩,
 ⟨some 3, none, .mov (.const (.int .i64 9))⟩])
 .ret)
 .skip))
 (.seq (.ops [⟨some 19, none, .mov (.tmp 0)⟩,
 ⟨some 20, none, .call (.func 88) [(.tmp 19)]⟩,
 ⟨some 2, none, .mov (.tmp 20)⟩,
 ⟨some 3, none, .mov (.const (.int .i64 0))⟩])
 .ret))))⟩
theorem ok44 : compF Tryz.prog Tryz.f44 = some c44 := by kernel_rfl
def c45 : CF := ⟨107, [.tmp 2, .tmp 3, .tmp 4],
 (.seq (.ops [⟨some 2, none, .mov (.const (.slice none 0 0))⟩,
 ⟨some 3, none, .mov (.const (.int .i64 0))⟩,
 ⟨some 4, none, .mov (.const (.int .i64 0))⟩])
 (.seq (.ops [⟨some 10, none, .mov (.tmp 0)⟩,
 ⟨some 11, none, .call (.func 89) [(.tmp 10), (.const (.int .i64 0))]⟩,
 ⟨some 9, none, .mov (.tmp 11)⟩,
 ⟨some 12, none, .ext (.tmp 9) 0⟩,
 ⟨some 13, none, .ext (.tmp 9) 1⟩,
 ⟨some 5, none, .mov (.tmp 12)⟩,
 ⟨some 6, none, .mov (.tmp 13)⟩])
 (.seq (.seq (.ops [⟨some 14, none, .mov (.tmp 0)⟩,
 ⟨some 15, none, .iad 6 (.tmp 14) (.const (.int .i64 0))⟩,
 ⟨some 16, none, .fad (.tmp 15) 0⟩,
 ⟨some 17, none, .ld1 (.tmp 16)⟩])
 (.block 0 (.seq (.ops [⟨some 71, none, .bin .eql (.tmp 17) (.const (.int .i64 7))⟩,
 ⟨some 70, none, .mov (.tmp 71)⟩])
 (.cond (.tmp 70)
 (.seq (.ops [⟨some 2, none, .mov (.const (.slice none 0 0))⟩,
 ⟨some 3, none, .mov (.const (.int .i64 0))⟩,
 ⟨some 4, none, .mov (.const (.int .i64 10))⟩])
 .ret)
 (.seq (.ops [⟨some 73, none, .bin .eql (.tmp 17) (.const (.int .i64 10))⟩,
 ⟨some 72, none, .mov (.tmp 73)⟩])
 (.cond (.tmp 72)
 (.seq (.seq (.ops [⟨some 74, none, .mov (.tmp 5)⟩,
 ⟨some 75, none, .iad 1 (.tmp 74) (.const (.int .i64 0))⟩,
 ⟨some 76, none, .ld1 (.tmp 75)⟩,
 ⟨some 77, none, .iad 6 (.tmp 76) (.const (.int .i64 0))⟩,
 ⟨some 78, none, .ld 6 (.tmp 77)⟩,
 ⟨some 7, none, .newz [(.int .i64 0), (.int .i64 0), (.int .i64 0), (.string ⟨#[]⟩), (.int .i32 0), (.int .i32 0)]⟩,
 ⟨none, none, .st 6 (.tmp 7) (.tmp 78)⟩])
 (.seq (.ops [⟨some 79, none, .fad (.tmp 7) 0⟩,
 ⟨some 80, none, .ld1 (.tmp 79)⟩,
 ⟨some 81, none, .bin .eql (.tmp 80) (.const (.int .i64 2))⟩,
 ⟨some 82, none, .mov (.tmp 81)⟩,
 ⟨some 83, (some (82, true)), .fad (.tmp 7) 2⟩,
 ⟨some 84, (some (82, true)), .ld1 (.tmp 83)⟩,
 ⟨some 85, (some (82, true)), .bin .eql (.tmp 84) (.const (.int .i64 0))⟩,
 ⟨some 86, none, .pick (.tmp 82) (.tmp 85) (.const (.bool false))⟩])
 (.cond (.tmp 86)
 (.seq (.ops [⟨some 87, none, .mov (.tmp 5)⟩,
 ⟨some 88, none, .iad 1 (.tmp 87) (.const (.int .i64 2))⟩,
 ⟨some 89, none, .ld1 (.tmp 88)⟩,
 ⟨some 90, none, .call (.func 40) [(.tmp 89)]⟩,
 ⟨some 2, none, .mov (.tmp 90)⟩,
 ⟨some 3, none, .mov (.const (.int .i64 1))⟩,
 ⟨some 4, none, .mov (.const (.int .i64 0))⟩])
 .ret)
 .skip)))
 (.seq (.ops [⟨some 91, none, .mov (.tmp 5)⟩,
 ⟨some 92, none, .iad 1 (.tmp 91) (.const (.int .i64 1))⟩,
 ⟨some 93, none, .ld1 (.tmp 92)⟩,
 ⟨some 94, none, .call (.func 40) [(.tmp 93)]⟩,
 ⟨some 2, none, .mov (.tmp 94)⟩,
 ⟨some 3, none, .mov (.const (.int .i64 1))⟩,
 ⟨some 4, none, .mov (.const (.int .i64 0))⟩])
 .ret))
 (.seq (.ops [⟨some 96, none, .bin .eql (.tmp 17) (.const (.int .i64 11))⟩,
 ⟨some 95, none, .mov (.tmp 96)⟩])
 (.cond (.tmp 95)
 (.seq (.ops [⟨some 3, none, .mov (.const (.int .i64 4))⟩])
 (.ops [⟨some 98, none, .mov (.tmp 0)⟩,
 ⟨some 99, none, .call (.func 90) [(.tmp 98)]⟩,
 ⟨some 97, none, .mov (.tmp 99)⟩,
 ⟨some 100, none, .ext (.tmp 97) 0⟩,
 ⟨some 101, none, .ext (.tmp 97) 1⟩,
 ⟨some 2, none, .mov (.tmp 100)⟩,
 ⟨some 4, none, .mov (.tmp 101)⟩]))
 (.seq (.ops [⟨some 18, none, .mov (.tmp 5)⟩,
 ⟨some 19, none, .iad 1 (.tmp 18) (.const (.int .i64 0))⟩,
 ⟨some 20, none, .ld1 (.tmp 19)⟩,
 ⟨some 8, none, .mov (.tmp 20)⟩])
 (.seq (.ops [⟨some 21, none, .mov (.tmp 8)⟩,
 ⟨some 22, none, .iad 6 (.tmp 21) (.const (.int .i64 0))⟩,
 ⟨some 23, none, .fad (.tmp 22) 0⟩,
 ⟨some 24, none, .ld1 (.tmp 23)⟩])
 (.block 1 (.seq (.ops [⟨some 26, none, .bin .eql (.tmp 24) (.const (.int .i64 8))⟩,
 ⟨some 25, none, .mov (.tmp 26)⟩])
 (.cond (.tmp 25)
 (.seq (.ops [⟨some 3, none, .mov (.const (.int .i64 2))⟩])
 (.ops [⟨some 28, none, .mov (.tmp 8)⟩,
 ⟨some 29, none, .mov (.tmp 5)⟩,
 ⟨some 30, none, .sl 1 (.tmp 29) (some (.const (.int .i64 1))) none none⟩,
 ⟨some 31, none, .call (.func 91) [(.tmp 28), (.tmp 30)]⟩,
 ⟨some 27, none, .mov (.tmp 31)⟩,
 ⟨some 32, none, .ext (.tmp 27) 0⟩,
 ⟨some 33, none, .ext (.tmp 27) 1⟩,
 ⟨some 2, none, .mov (.tmp 32)⟩,
 ⟨some 4, none, .mov (.tmp 33)⟩]))
 (.seq (.ops [⟨some 35, none, .bin .eql (.tmp 24) (.const (.int .i64 6))⟩,
 ⟨some 34, none, .mov (.tmp 35)⟩])
 (.cond (.tmp 34)
 (.seq (.ops [⟨some 3, none, .mov (.const (.int .i64 3))⟩])
 (.seq (.draw [⟨some 37, none, .mov (.tmp 8)⟩,
 ⟨some 38, none, .iad 6 (.tmp 37) (.const (.int .i64 0))⟩,
 ⟨some 39, none, .fad (.tmp 38) 3⟩,
 ⟨some 40, none, .ld1 (.tmp 39)⟩,
 ⟨some 41, none, .mov (.tmp 5)⟩,
 ⟨some 42, none, .sl 1 (.tmp 41) (some (.const (.int .i64 1))) none none⟩,
 ⟨some 43, none, .call (.func 92) [(.tmp 40), (.tmp 42)]⟩,
 ⟨some 36, none, .mov (.tmp 43)⟩,
 ⟨some 44, none, .ext (.tmp 36) 0⟩,
 ⟨some 45, none, .ext (.tmp 36) 1⟩,
 ⟨some 46, none, .ext (.tmp 36) 2⟩,
 ⟨some 2, none, .mov (.tmp 44)⟩,
 ⟨some 4, none, .mov (.tmp 46)⟩] [(0, 4), (1, 4), (2, 4), (3, 4), (0, 5), (1, 5), (2, 5), (3, 5), (8, 9), (8, 10), (9, 10), (9, 11), (10, 11)])
 (.seq (.ops [⟨some 47, none, .mov (.tmp 4)⟩,
 ⟨some 48, none, .bin .eql (.tmp 47) (.const (.int .i64 0))⟩,
 ⟨some 49, none, .mov (.tmp 48)⟩,
 ⟨some 50, (some (49, true)), .mov (.tmp 8)⟩,
 ⟨some 51, (some (49, true)), .iad 6 (.tmp 50) (.const (.int .i64 0))⟩,
 ⟨some 52, (some (49, true)), .fad (.tmp 51) 3⟩,
 ⟨some 53, (some (49, true)), .ld1 (.tmp 52)⟩,
 ⟨some 54, (some (49, true)), .bin .neq (.tmp 53) (.const (.string ⟨#[99, 97, 114]⟩))⟩,
 ⟨some 55, none, .pick (.tmp 49) (.tmp 54) (.const (.bool false))⟩,
 ⟨some 56, none, .mov (.tmp 55)⟩,
 ⟨some 57, (some (56, true)), .mov (.tmp 8)⟩,
 ⟨some 58, (some (56, true)), .iad 6 (.tmp 57) (.const (.int .i64 0))⟩,
 ⟨some 59, (some (56, true)), .fad (.tmp 58) 3⟩,
 ⟨some 60, (some (56, true)), .ld1 (.tmp 59)⟩,
 ⟨some 61, (some (56, true)), .bin .neq (.tmp 60) (.const (.string ⟨#[99, 100, 114]⟩))⟩,
 ⟨some 62, none, .pick (.tmp 56) (.tmp 61) (.const (.bool false))⟩])
 (.cond (.tmp 62)
 (.ops [⟨some 63, none, .mov (.tmp 2)⟩,
 ⟨some 64, none, .mov (.tmp 0)⟩,
 ⟨some 65, none, .iad 6 (.tmp 64) (.const (.int .i64 0))⟩,
 ⟨some 66, none, .fad (.tmp 65) 5⟩,
 ⟨some 67, none, .ld1 (.tmp 66)⟩,
 ⟨some 68, none, .iad 6 (.tmp 63) (.const (.int .i64 0))⟩,
 ⟨some 69, none, .fad (.tmp 68) 5⟩,
 ⟨none, none, .st 1 (.tmp 69) (.tmp 67)⟩])
 .skip))))
 (.ops [⟨some 4, none, .mov (.const (.int .i64 17))⟩]))))))))))))))))
 (.seq (.seq (.ops [⟨some 102, none, .mov (.tmp 4)⟩,
 ⟨some 103, none, .bin .neq (.tmp 102) (.const (.int .i64 0))⟩])
 (.cond (.tmp 103)
 (.seq (.ops [⟨some 104, none, .mov (.tmp 4)⟩,
 ⟨some 2, none, .mov (.const (.slice none 0 0))⟩,
 ⟨some 3, none, .mov (.const (.int .i64 0))⟩,
 ⟨some 4, none, .mov (.tmp 104)⟩])
 .ret)
 .skip))
 (.seq (.ops [⟨some 105, none, .mov (.tmp 2)⟩,
 ⟨some 106, none, .mov (.tmp 3)⟩,
 ⟨some 2, none, .mov (.tmp 105)⟩,
 ⟨some 3, none, .mov (.tmp 106)⟩,
 ⟨some 4, none, .mov (.const (.int .i64 0))⟩])
 .ret)))))⟩
theorem ok45 : compF Tryz.prog Tryz.f45 = some c45 := by kernel_rfl
def c46 : CF := ⟨19, [.tmp 4],
 (.seq (.ops [⟨some 4, none, .mov (.const (.int .i64 0))⟩])
 (.seq (.seq (.ops [⟨some 5, none, .mov (.const (.int .i64 1))⟩])
 (.block 0 (.loop (.seq (.seq (.ops [⟨some 6, none, .mov (.tmp 5)⟩,
 ⟨some 7, none, .bin .gtr (.tmp 6) (.const (.int .i64 0))⟩])
 (.cond (.tmp 7)
 .skip
 (.exit 0)))
 (.seq (.block 1 (.ops [⟨some 10, none, .mov (.tmp 5)⟩,
 ⟨some 11, none, .mov (.tmp 0)⟩,
 ⟨some 12, none, .mov (.tmp 1)⟩,
 ⟨some 13, none, .iad 6 (.tmp 11) (.tmp 12)⟩,
 ⟨some 14, none, .fad (.tmp 13) 1⟩,
 ⟨some 15, none, .ld1 (.tmp 14)⟩,
 ⟨some 16, none, .bin .sub (.tmp 15) (.const (.int .i64 1))⟩,
 ⟨some 17, none, .bin .add (.tmp 10) (.tmp 16)⟩,
 ⟨some 5, none, .mov (.tmp 17)⟩]))
 (.ops [⟨some 8, none, .mov (.tmp 1)⟩,
 ⟨some 9, none, .bin .add (.tmp 8) (.const (.int .i64 1))⟩,
 ⟨some 1, none, .mov (.tmp 9)⟩]))))))
 (.seq (.ops [⟨some 18, none, .mov (.tmp 1)⟩,
 ⟨some 4, none, .mov (.tmp 18)⟩])
 .ret)))⟩
theorem ok46 : compF Tryz.prog Tryz.f46 = some c46 := by kernel_rfl
def c47 : CF := ⟨56, [.tmp 6, .tmp 7],
 (.seq (.ops [⟨some 6, none, .mov (.const (.slice none 0 0))⟩,
 ⟨some 7, none, .mov (.const (.int .i64 0))⟩])
 (.seq (.seq (.ops [⟨some 14, none, .mov (.tmp 0)⟩,
 ⟨some 15, none, .mov (.tmp 1)⟩,
 ⟨some 16, none, .call (.func 93) [(.tmp 14), (.tmp 15)]⟩,
 ⟨some 8, none, .mov (.tmp 16)⟩])
 (.seq (.ops [⟨some 17, none, .mov (.tmp 8)⟩,
 ⟨some 18, none, .bin .neq (.tmp 17) (.const (.int .i64 0))⟩])
 (.cond (.tmp 18)
 (.seq (.ops [⟨some 19, none, .mov (.tmp 8)⟩,
 ⟨some 6, none, .mov (.const (.slice none 0 0))⟩,
 ⟨some 7, none, .mov (.tmp 19)⟩])
 .ret)
 .skip)))
 (.seq (.seq (.ops [⟨some 21, none, .mov (.tmp 2)⟩,
 ⟨some 22, none, .call (.func 94) [(.tmp 21)]⟩,
 ⟨some 20, none, .mov (.tmp 22)⟩,
 ⟨some 23, none, .ext (.tmp 20) 0⟩,
 ⟨some 24, none, .ext (.tmp 20) 1⟩,
 ⟨some 9, none, .mov (.tmp 23)⟩,
 ⟨some 10, none, .mov (.tmp 24)⟩])
 (.seq (.ops [⟨some 25, none, .mov (.tmp 10)⟩,
 ⟨some 26, none, .bin .neq (.tmp 25) (.const (.int .i64 0))⟩])
 (.cond (.tmp 26)
 (.seq (.ops [⟨some 27, none, .mov (.tmp 10)⟩,
 ⟨some 6, none, .mov (.const (.slice none 0 0))⟩,
 ⟨some 7, none, .mov (.tmp 27)⟩])
 .ret)
 .skip)))
 (.seq (.draw [⟨some 28, none, .mov (.tmp 0)⟩,
 ⟨some 29, none, .mov (.tmp 1)⟩,
 ⟨some 30, none, .sl 6 (.tmp 28) none (some (.tmp 29)) none⟩,
 ⟨some 31, none, .mov (.tmp 2)⟩,
 ⟨some 32, none, .mov (.tmp 0)⟩,
 ⟨some 33, none, .mov (.tmp 0)⟩,
 ⟨some 34, none, .call (.func 81) [(.tmp 33)]⟩,
 ⟨some 35, none, .mov (.tmp 1)⟩,
 ⟨some 36, none, .iad 1 (.tmp 34) (.tmp 35)⟩,
 ⟨some 37, none, .ld1 (.tmp 36)⟩,
 ⟨some 38, none, .sl 6 (.tmp 32) (some (.tmp 37)) none none⟩,
 ⟨some 39, none, .lits [(.slice none 0 0), (.slice none 0 0), (.slice none 0 0)] 3 [(0, 1, (.tmp 30)), (1, 1, (.tmp 31)), (2, 1, (.tmp 38))]⟩,
 ⟨some 40, none, .call (.func 95) [(.tmp 39)]⟩,
 ⟨some 11, none, .mov (.tmp 40)⟩] [(0, 1), (0, 3), (1, 3), (2, 3), (0, 4), (1, 4), (2, 4), (3, 4), (0, 5), (1, 5), (2, 5), (3, 5), (4, 5), (0, 6), (1, 6), (2, 6), (3, 6), (4, 6), (0, 7), (1, 7), (2, 7), (3, 7), (4, 7), (5, 7), (6, 7), (0, 8), (1, 8), (2, 8), (3, 8), (4, 8), (0, 9), (1, 9), (2, 9), (3, 9), (4, 9), (0, 10), (1, 10), (2, 10), (3, 10)])
 (.seq (.seq (.ops [⟨some 41, none, .mov (.tmp 11)⟩,
 ⟨some 42, none, .lnl (.tmp 41)⟩,
 ⟨some 43, none, .bin .gtr (.tmp 42) (.const (.int .i64 2000))⟩,
 ⟨some 44, none, .mov (.tmp 43)⟩,
 ⟨some 45, (some (44, false)), .mov (.tmp 11)⟩,
 ⟨some 46, (some (44, false)), .call (.func 96) [(.tmp 45)]⟩,
 ⟨some 47, none, .pick (.tmp 44) (.const (.bool true)) (.tmp 46)⟩])
 (.cond (.tmp 47)
 (.seq (.ops [⟨some 6, none, .mov (.const (.slice none 0 0))⟩,
 ⟨some 7, none, .mov (.const (.int .i64 3))⟩])
 .ret)
 .skip))
 (.seq (.seq (.ops [⟨some 49, none, .mov (.tmp 11)⟩,
 ⟨some 50, none, .call (.func 94) [(.tmp 49)]⟩,
 ⟨some 48, none, .mov (.tmp 50)⟩,
 ⟨some 51, none, .ext (.tmp 48) 0⟩,
 ⟨some 52, none, .ext (.tmp 48) 1⟩,
 ⟨some 12, none, .mov (.tmp 51)⟩,
 ⟨some 13, none, .mov (.tmp 52)⟩])
 (.seq (.ops [⟨some 53, none, .mov (.tmp 13)⟩,
 ⟨some 54, none, .bin .neq (.tmp 53) (.const (.int .i64 0))⟩])
 (.cond (.tmp 54)
 (.seq (.ops [⟨some 6, none, .mov (.const (.slice none 0 0))⟩,
 ⟨some 7, none, .mov (.const (.int .i64 6))⟩])
 .ret)
 .skip)))
 (.seq (.ops [⟨some 55, none, .mov (.tmp 11)⟩,
 ⟨some 6, none, .mov (.tmp 55)⟩,
 ⟨some 7, none, .mov (.const (.int .i64 0))⟩])
 .ret)))))))⟩
theorem ok47 : compF Tryz.prog Tryz.f47 = some c47 := by kernel_rfl
def c48 : CF := ⟨75, [.tmp 2, .tmp 3, .tmp 4],
 (.seq (.ops [⟨some 2, none, .mov (.const (.pointer none))⟩,
 ⟨some 3, none, .mov (.const (.int .i64 0))⟩,
 ⟨some 4, none, .mov (.const (.int .i64 0))⟩])
 (.seq (.block 0 (.seq (.ops [⟨some 12, none, .mov (.tmp 0)⟩,
 ⟨some 13, none, .lnl (.tmp 12)⟩,
 ⟨some 14, none, .bin .eql (.tmp 13) (.const (.int .i64 0))⟩,
 ⟨some 11, none, .mov (.tmp 14)⟩])
 (.cond (.tmp 11)
 (.seq (.ops [⟨some 2, none, .mov (.const (.pointer none))⟩,
 ⟨some 3, none, .mov (.const (.int .i64 0))⟩,
 ⟨some 4, none, .mov (.const (.int .i64 6))⟩])
 .ret)
 (.seq (.ops [⟨some 16, none, .mov (.tmp 0)⟩,
 ⟨some 17, none, .lnl (.tmp 16)⟩,
 ⟨some 18, none, .bin .gtr (.tmp 17) (.const (.int .i64 2000))⟩,
 ⟨some 15, none, .mov (.tmp 18)⟩])
 (.cond (.tmp 15)
 (.seq (.ops [⟨some 2, none, .mov (.const (.pointer none))⟩,
 ⟨some 3, none, .mov (.const (.int .i64 0))⟩,
 ⟨some 4, none, .mov (.const (.int .i64 3))⟩])
 .ret)
 .skip)))))
 (.seq (.ops [⟨some 19, none, .mov (.tmp 0)⟩,
 ⟨some 20, none, .call (.func 97) []⟩,
 ⟨some 21, none, .mkm⟩,
 ⟨some 22, none, .agg [(.slice none 0 0), (.slice none 0 0), (.int .i64 0), (.int .i64 0), (.int .i64 0), (.int .i64 0), (.slice none 0 0), (.int .i64 0), (.int .i64 0), (.int .i64 0), (.int .i64 0), (.slice none 0 0), (.int .i64 0), (.int .i64 0), (.int .i64 0), (.int .i64 0), (.slice none 0 0), (.int .i64 0), (.int .i64 0), (.int .i64 0), (.int .i64 0), (.slice none 0 0), (.int .i64 0), (.int .i64 0), (.int .i64 0), (.int .i64 0), (.slice none 0 0), (.int .i64 0), (.int .i64 0), (.int .i64 0), (.int .i64 0), (.slice none 0 0), (.int .i64 0), (.int .i64 0), (.int .i64 0), (.int .i64 0), (.slice none 0 0), (.int .i64 0), (.int .i64 0), (.int .i64 0), (.int .i64 0), (.slice none 0 0), (.int .i64 0), (.int .i64 0), (.int .i64 0), (.int .i64 0), (.slice none 0 0), (.int .i64 0), (.int .i64 0), (.int .i64 0), (.int .i64 0), (.slice none 0 0), (.int .i64 0), (.int .i64 0), (.int .i64 0), (.int .i64 0), (.slice none 0 0), (.int .i64 0), (.int .i64 0), (.int .i64 0), (.int .i64 0), (.slice none 0 0), (.int .i64 0), (.int .i64 0), (.int .i64 0), (.int .i64 0), (.slice none 0 0), (.int .i64 0), (.int .i64 0), (.int .i64 0), (.int .i64 0), (.slice none 0 0), (.int .i64 0), (.int .i64 0), (.int .i64 0), (.int .i64 0), (.slice none 0 0), (.int .i64 0), (.int .i64 0), (.int .i64 0), (.int .i64 0), (.slice none 0 0), (.int .i64 0), (.int .i64 0), (.int .i64 0), (.int .i64 0), (.slice none 0 0), (.int .i64 0), (.int .i64 0), (.int .i64 0), (.int .i64 0), (.slice none 0 0), (.int .i64 0), (.int .i64 0), (.int .i64 0), (.int .i64 0), (.slice none 0 0), (.int .i64 0), (.int .i64 0), (.int .i64 0), (.int .i64 0), (.slice none 0 0), (.int .i64 0), (.int .i64 0), (.int .i64 0), (.int .i64 0), (.slice none 0 0), (.int .i64 0), (.int .i64 0), (.int .i64 0), (.int .i64 0), (.slice none 0 0), (.int .i64 0), (.int .i64 0), (.int .i64 0), (.int .i64 0), (.slice none 0 0), (.int .i64 0), (.int .i64 0), (.int .i64 0), (.int .i64 0), (.slice none 0 0), (.int .i64 0), (.int .i64 0), (.int .i64 0), (.int .i64 0), (.slice none 0 0), (.map none)] [(0, 1, (.tmp 19)), (2, 125, (.tmp 20)), (127, 1, (.tmp 21))]⟩,
 ⟨some 23, none, .box (.tmp 22)⟩,
 ⟨some 5, none, .mov (.tmp 23)⟩])
 (.seq (.seq (.ops [⟨some 24, none, .mov (.tmp 0)⟩,
 ⟨some 25, none, .lnl (.tmp 24)⟩,
 ⟨some 26, none, .mov (.const (.int .i64 0))⟩])
 (.block 1 (.loop (.seq (.ops [⟨some 27, none, .bin .lss (.tmp 26) (.tmp 25)⟩])
 (.seq (.cond (.tmp 27)
 .skip
 (.exit 1))
 (.seq (.block 2 (.seq (.ops [⟨some 28, none, .mov (.tmp 26)⟩,
 ⟨some 29, none, .iad 7 (.tmp 24) (.tmp 26)⟩,
 ⟨some 30, none, .ld 7 (.tmp 29)⟩,
 ⟨some 7, none, .newz [(.int .i64 0), (.int .i64 0), (.int .i64 0), (.string ⟨#[]⟩), (.int .i64 0), (.int .i64 0), (.int .i64 0)]⟩,
 ⟨some 6, none, .mov (.tmp 28)⟩,
 ⟨none, none, .st 7 (.tmp 7) (.tmp 30)⟩])
 (.seq (.ops [⟨some 31, none, .mov (.tmp 5)⟩,
 ⟨some 32, none, .call (.func 98) [(.tmp 31)]⟩,
 ⟨some 8, none, .newz [(.int .i64 0), (.int .i64 0), (.int .i64 0)]⟩,
 ⟨none, none, .st 3 (.tmp 8) (.tmp 32)⟩])
 (.seq (.seq (.ops [⟨some 33, none, .fad (.tmp 8) 2⟩,
 ⟨some 34, none, .ld1 (.tmp 33)⟩,
 ⟨some 35, none, .bin .lss (.tmp 34) (.const (.int .i64 0))⟩])
 (.cond (.tmp 35)
 (.seq (.ops [⟨some 36, none, .mov (.tmp 6)⟩,
 ⟨some 2, none, .mov (.const (.pointer none))⟩,
 ⟨some 3, none, .mov (.tmp 36)⟩,
 ⟨some 4, none, .mov (.const (.int .i64 6))⟩])
 .ret)
 .skip))
 (.seq (.seq (.ops [⟨some 37, none, .ld 7 (.tmp 7)⟩,
 ⟨some 38, none, .fad (.tmp 8) 2⟩,
 ⟨some 39, none, .ld1 (.tmp 38)⟩,
 ⟨some 40, none, .call (.func 99) [(.tmp 37), (.tmp 39)]⟩,
 ⟨some 9, none, .mov (.tmp 40)⟩])
 (.seq (.ops [⟨some 41, none, .mov (.tmp 9)⟩,
 ⟨some 42, none, .bin .neq (.tmp 41) (.const (.int .i64 0))⟩])
 (.cond (.tmp 42)
 (.seq (.ops [⟨some 43, none, .mov (.tmp 6)⟩,
 ⟨some 44, none, .mov (.tmp 9)⟩,
 ⟨some 2, none, .mov (.const (.pointer none))⟩,
 ⟨some 3, none, .mov (.tmp 43)⟩,
 ⟨some 4, none, .mov (.tmp 44)⟩])
 .ret)
 .skip)))
 (.seq (.seq (.ops [⟨some 45, none, .mov (.tmp 5)⟩,
 ⟨some 46, none, .ld 7 (.tmp 7)⟩,
 ⟨some 47, none, .ld 3 (.tmp 8)⟩,
 ⟨some 48, none, .call (.func 100) [(.tmp 45), (.tmp 46), (.tmp 47)]⟩,
 ⟨some 10, none, .mov (.tmp 48)⟩])
 (.seq (.ops [⟨some 49, none, .mov (.tmp 10)⟩,
 ⟨some 50, none, .bin .neq (.tmp 49) (.const (.int .i64 0))⟩])
 (.cond (.tmp 50)
 (.seq (.ops [⟨some 51, none, .mov (.tmp 6)⟩,
 ⟨some 52, none, .mov (.tmp 10)⟩,
 ⟨some 2, none, .mov (.const (.pointer none))⟩,
 ⟨some 3, none, .mov (.tmp 51)⟩,
 ⟨some 4, none, .mov (.tmp 52)⟩])
 .ret)
 .skip)))
 (.draw [⟨some 53, none, .mov (.tmp 5)⟩,
 ⟨some 54, none, .mov (.tmp 5)⟩,
 ⟨some 55, none, .nilck (.tmp 54)⟩,
 ⟨some 56, none, .fad (.tmp 55) 1⟩,
 ⟨some 57, none, .ld1 (.tmp 56)⟩,
 ⟨some 58, none, .ld 3 (.tmp 8)⟩,
 ⟨some 59, none, .lits [(.int .i64 0), (.int .i64 0), (.int .i64 0)] 1 [(0, 3, (.tmp 58))]⟩,
 ⟨some 60, none, .app 3 24 none (.tmp 57) (.tmp 59)⟩,
 ⟨some 61, none, .nilck (.tmp 53)⟩,
 ⟨some 62, none, .fad (.tmp 61) 1⟩,
 ⟨none, none, .st 1 (.tmp 62) (.tmp 60)⟩] [(0, 1), (0, 2), (0, 3), (0, 4), (0, 5), (1, 5), (2, 5), (3, 5), (4, 5), (0, 6), (1, 6), (2, 6), (3, 6), (4, 6), (0, 7)])))))))
 (.ops [⟨some 63, none, .bin .add (.tmp 26) (.const (.int .i64 1))⟩,
 ⟨some 26, none, .mov (.tmp 63)⟩])))))))
 (.seq (.seq (.ops [⟨some 64, none, .mov (.tmp 5)⟩,
 ⟨some 65, none, .call (.func 98) [(.tmp 64)]⟩,
 ⟨some 66, none, .fld1 (.tmp 65) 2⟩,
 ⟨some 67, none, .bin .geq (.tmp 66) (.const (.int .i64 0))⟩])
 (.cond (.tmp 67)
 (.seq (.ops [⟨some 68, none, .mov (.tmp 0)⟩,
 ⟨some 69, none, .lnl (.tmp 68)⟩,
 ⟨some 2, none, .mov (.const (.pointer none))⟩,
 ⟨some 3, none, .mov (.tmp 69)⟩,
 ⟨some 4, none, .mov (.const (.int .i64 6))⟩])
 .ret)
 .skip))
 (.seq (.ops [⟨some 70, none, .mov (.tmp 5)⟩,
 ⟨some 71, none, .call (.func 101) [(.tmp 70)]⟩,
 ⟨some 72, none, .ext (.tmp 71) 0⟩,
 ⟨some 73, none, .ext (.tmp 71) 1⟩,
 ⟨some 74, none, .ext (.tmp 71) 2⟩,
 ⟨some 2, none, .mov (.tmp 72)⟩,
 ⟨some 3, none, .mov (.tmp 73)⟩,
 ⟨some 4, none, .mov (.tmp 74)⟩])
 .ret))))))⟩
theorem ok48 : compF Tryz.prog Tryz.f48 = some c48 := by kernel_rfl
def c49 : CF := ⟨33, [.tmp 4],
 (.seq (.ops [⟨some 4, none, .mov (.const (.slice none 0 0))⟩])
 (.seq (.ops [⟨some 5, none, .mov (.const (.slice none 0 0))⟩])
 (.seq (.seq (.draw [⟨some 8, none, .mov (.tmp 1)⟩,
 ⟨some 9, none, .bin .add (.tmp 8) (.const (.int .i64 1))⟩,
 ⟨some 10, none, .mov (.tmp 0)⟩,
 ⟨some 11, none, .nilck (.tmp 10)⟩,
 ⟨some 12, none, .fad (.tmp 11) 0⟩,
 ⟨some 13, none, .ld1 (.tmp 12)⟩,
 ⟨some 14, none, .mov (.tmp 1)⟩,
 ⟨some 15, none, .iad 7 (.tmp 13) (.tmp 14)⟩,
 ⟨some 16, none, .fad (.tmp 15) 1⟩,
 ⟨some 17, none, .ld1 (.tmp 16)⟩,
 ⟨some 6, none, .mov (.tmp 9)⟩,
 ⟨some 7, none, .mov (.tmp 17)⟩] [(0, 2), (1, 2), (0, 3), (1, 3), (0, 4), (1, 4), (0, 5), (1, 5), (0, 6), (1, 6), (2, 6), (3, 6), (4, 6), (5, 6), (0, 7), (1, 7), (0, 8), (1, 8), (0, 9), (1, 9), (2, 10), (3, 10), (4, 10), (5, 10), (6, 10), (7, 10), (8, 10), (9, 10)])
 (.block 0 (.loop (.seq (.seq (.ops [⟨some 18, none, .mov (.tmp 7)⟩,
 ⟨some 19, none, .bin .gtr (.tmp 18) (.const (.int .i64 0))⟩])
 (.cond (.tmp 19)
 .skip
 (.exit 0)))
 (.seq (.block 1 (.seq (.ops [⟨some 22, none, .mov (.tmp 5)⟩,
 ⟨some 23, none, .mov (.tmp 6)⟩,
 ⟨some 24, none, .lits [(.int .i64 0)] 1 [(0, 1, (.tmp 23))]⟩,
 ⟨some 25, none, .app 1 8 none (.tmp 22) (.tmp 24)⟩,
 ⟨some 5, none, .mov (.tmp 25)⟩])
 (.ops [⟨some 26, none, .mov (.tmp 0)⟩,
 ⟨some 27, none, .nilck (.tmp 26)⟩,
 ⟨some 28, none, .fad (.tmp 27) 0⟩,
 ⟨some 29, none, .ld1 (.tmp 28)⟩,
 ⟨some 30, none, .mov (.tmp 6)⟩,
 ⟨some 31, none, .call (.func 102) [(.tmp 29), (.tmp 30)]⟩,
 ⟨some 6, none, .mov (.tmp 31)⟩])))
 (.ops [⟨some 20, none, .mov (.tmp 7)⟩,
 ⟨some 21, none, .bin .sub (.tmp 20) (.const (.int .i64 1))⟩,
 ⟨some 7, none, .mov (.tmp 21)⟩]))))))
 (.seq (.ops [⟨some 32, none, .mov (.tmp 5)⟩,
 ⟨some 4, none, .mov (.tmp 32)⟩])
 .ret))))⟩
theorem ok49 : compF Tryz.prog Tryz.f49 = some c49 := by kernel_rfl
def c50 : CF := ⟨15, [],
 (.ops [⟨some 4, none, .mov (.tmp 0)⟩,
 ⟨some 5, none, .mov (.tmp 0)⟩,
 ⟨some 6, none, .nilck (.tmp 5)⟩,
 ⟨some 7, none, .fad (.tmp 6) 2⟩,
 ⟨some 8, none, .ld1 (.tmp 7)⟩,
 ⟨some 9, none, .mov (.tmp 1)⟩,
 ⟨some 10, none, .agg [(.int .i64 0), (.int .i64 0), (.int .i64 0), (.string ⟨#[]⟩)] [(0, 1, (.const (.int .i64 3))), (3, 1, (.tmp 9))]⟩,
 ⟨some 11, none, .lits [(.int .i64 0), (.int .i64 0), (.int .i64 0), (.string ⟨#[]⟩)] 1 [(0, 4, (.tmp 10))]⟩,
 ⟨some 12, none, .app 4 40 none (.tmp 8) (.tmp 11)⟩,
 ⟨some 13, none, .nilck (.tmp 4)⟩,
 ⟨some 14, none, .fad (.tmp 13) 2⟩,
 ⟨none, none, .st 1 (.tmp 14) (.tmp 12)⟩])⟩
theorem ok50 : compF Tryz.prog Tryz.f50 = some c50 := by kernel_rfl
def c51 : CF := ⟨8, [.tmp 4],
 (.seq (.ops [⟨some 4, none, .mov (.const (.string ⟨#[]⟩))⟩])
 (.seq (.ops [⟨some 5, none, .mov (.tmp 0)⟩,
 ⟨some 6, none, .mov (.tmp 1)⟩,
 ⟨some 7, none, .call (.func 57) [(.tmp 5), (.tmp 6)]⟩,
 ⟨some 4, none, .mov (.tmp 7)⟩])
 .ret))⟩
theorem ok51 : compF Tryz.prog Tryz.f51 = some c51 := by kernel_rfl
def c52 : CF := ⟨15, [],
 (.ops [⟨some 4, none, .mov (.tmp 0)⟩,
 ⟨some 5, none, .mov (.tmp 0)⟩,
 ⟨some 6, none, .nilck (.tmp 5)⟩,
 ⟨some 7, none, .fad (.tmp 6) 2⟩,
 ⟨some 8, none, .ld1 (.tmp 7)⟩,
 ⟨some 9, none, .mov (.tmp 1)⟩,
 ⟨some 10, none, .agg [(.int .i64 0), (.int .i64 0), (.int .i64 0), (.string ⟨#[]⟩)] [(0, 1, (.const (.int .i64 4))), (1, 1, (.tmp 9))]⟩,
 ⟨some 11, none, .lits [(.int .i64 0), (.int .i64 0), (.int .i64 0), (.string ⟨#[]⟩)] 1 [(0, 4, (.tmp 10))]⟩,
 ⟨some 12, none, .app 4 40 none (.tmp 8) (.tmp 11)⟩,
 ⟨some 13, none, .nilck (.tmp 4)⟩,
 ⟨some 14, none, .fad (.tmp 13) 2⟩,
 ⟨none, none, .st 1 (.tmp 14) (.tmp 12)⟩])⟩
theorem ok52 : compF Tryz.prog Tryz.f52 = some c52 := by kernel_rfl
def c53 : CF := ⟨16, [],
 (.seq (.ops [⟨some 6, none, .mov (.tmp 1)⟩,
 ⟨some 7, none, .lnl (.tmp 6)⟩,
 ⟨some 8, none, .mov (.const (.int .i64 0))⟩])
 (.block 0 (.loop (.seq (.ops [⟨some 9, none, .bin .lss (.tmp 8) (.tmp 7)⟩])
 (.seq (.cond (.tmp 9)
 .skip
 (.exit 0))
 (.seq (.block 1 (.seq (.ops [⟨some 10, none, .iad 1 (.tmp 6) (.tmp 8)⟩,
 ⟨some 11, none, .ld1 (.tmp 10)⟩,
 ⟨some 5, none, .mov (.tmp 11)⟩])
 (.ops [⟨some 12, none, .mov (.tmp 0)⟩,
 ⟨some 13, none, .mov (.tmp 5)⟩,
 ⟨some 14, none, .call (.func 29) [(.tmp 12), (.tmp 13)]⟩])))
 (.ops [⟨some 15, none, .bin .add (.tmp 8) (.const (.int .i64 1))⟩,
 ⟨some 8, none, .mov (.tmp 15)⟩])))))))⟩
theorem ok53 : compF Tryz.prog Tryz.f53 = some c53 := by kernel_rfl
def c54 : CF := ⟨2, [.cells 0 25],
 (.seq (.ops [⟨some 0, none, .newz [(.string ⟨#[]⟩), (.string ⟨#[]⟩), (.string ⟨#[]⟩), (.string ⟨#[]⟩), (.string ⟨#[]⟩), (.string ⟨#[]⟩), (.string ⟨#[]⟩), (.string ⟨#[]⟩), (.string ⟨#[]⟩), (.string ⟨#[]⟩), (.string ⟨#[]⟩), (.string ⟨#[]⟩), (.string ⟨#[]⟩), (.string ⟨#[]⟩), (.string ⟨#[]⟩), (.string ⟨#[]⟩), (.string ⟨#[]⟩), (.string ⟨#[]⟩), (.string ⟨#[]⟩), (.string ⟨#[]⟩), (.string ⟨#[]⟩), (.string ⟨#[]⟩), (.string ⟨#[]⟩), (.string ⟨#[]⟩), (.string ⟨#[]⟩)]⟩])
 (.seq (.ops [⟨some 1, none, .agg [(.string ⟨#[]⟩), (.string ⟨#[]⟩), (.string ⟨#[]⟩), (.string ⟨#[]⟩), (.string ⟨#[]⟩), (.string ⟨#[]⟩), (.string ⟨#[]⟩), (.string ⟨#[]⟩), (.string ⟨#[]⟩), (.string ⟨#[]⟩), (.string ⟨#[]⟩), (.string ⟨#[]⟩), (.string ⟨#[]⟩), (.string ⟨#[]⟩), (.string ⟨#[]⟩), (.string ⟨#[]⟩), (.string ⟨#[]⟩), (.string ⟨#[]⟩), (.string ⟨#[]⟩), (.string ⟨#[]⟩), (.string ⟨#[]⟩), (.string ⟨#[]⟩), (.string ⟨#[]⟩), (.string ⟨#[]⟩), (.string ⟨#[]⟩)] [(3, 1, (.const (.string ⟨#[113, 117, 111, 116, 101]⟩))), (8, 1, (.const (.string ⟨#[108, 97, 109, 98, 100, 97]⟩))), (11, 1, (.const (.string ⟨#[105, 102]⟩))), (12, 1, (.const (.string ⟨#[108, 101, 116]⟩))), (13, 1, (.const (.string ⟨#[108, 101, 116, 42]⟩))), (14, 1, (.const (.string ⟨#[108, 101, 116, 114, 101, 99]⟩))), (15, 1, (.const (.string ⟨#[99, 111, 110, 100]⟩))), (17, 1, (.const (.string ⟨#[101, 108, 115, 101]⟩))), (18, 1, (.const (.string ⟨#[97, 110, 100]⟩))), (19, 1, (.const (.string ⟨#[111, 114]⟩))), (20, 1, (.const (.string ⟨#[119, 104, 101, 110]⟩))), (21, 1, (.const (.string ⟨#[117, 110, 108, 101, 115, 115]⟩))), (22, 1, (.const (.string ⟨#[98, 101, 103, 105, 110]⟩))), (23, 1, (.const (.string ⟨#[108, 105, 115, 116]⟩))), (24, 1, (.const (.string ⟨#[112, 97, 105, 114]⟩)))]⟩,
 ⟨none, none, .st 25 (.tmp 0) (.tmp 1)⟩])
 .ret))⟩
theorem ok54 : compF Tryz.prog Tryz.f54 = some c54 := by kernel_rfl
def c55 : CF := ⟨19, [.tmp 4, .tmp 5],
 (.seq (.ops [⟨some 4, none, .mov (.const (.int .i64 0))⟩,
 ⟨some 5, none, .mov (.const .nilIface)⟩])
 (.seq (.ops [⟨some 6, none, .mov (.tmp 0)⟩,
 ⟨some 7, none, .call (.func 103) [(.tmp 6)]⟩])
 (.seq (.ops [⟨some 8, none, .mov (.tmp 0)⟩,
 ⟨some 9, none, .mov (.tmp 0)⟩,
 ⟨some 10, none, .nilck (.tmp 9)⟩,
 ⟨some 11, none, .fad (.tmp 10) 1⟩,
 ⟨some 12, none, .ld1 (.tmp 11)⟩,
 ⟨some 13, none, .mov (.tmp 1)⟩,
 ⟨some 14, none, .aps (Option.some 5) (.tmp 12) (.tmp 13)⟩,
 ⟨some 15, none, .nilck (.tmp 8)⟩,
 ⟨some 16, none, .fad (.tmp 15) 1⟩,
 ⟨none, none, .st 1 (.tmp 16) (.tmp 14)⟩])
 (.seq (.ops [⟨some 17, none, .mov (.tmp 1)⟩,
 ⟨some 18, none, .lns (.tmp 17)⟩,
 ⟨some 4, none, .mov (.tmp 18)⟩,
 ⟨some 5, none, .mov (.const .nilIface)⟩])
 .ret))))⟩
theorem ok55 : compF Tryz.prog Tryz.f55 = some c55 := by kernel_rfl
def c56 : CF := ⟨17, [.tmp 4],
 (.seq (.ops [⟨some 4, none, .mov (.const .nilIface)⟩])
 (.seq (.ops [⟨some 5, none, .mov (.tmp 0)⟩,
 ⟨some 6, none, .call (.func 103) [(.tmp 5)]⟩])
 (.seq (.ops [⟨some 7, none, .mov (.tmp 0)⟩,
 ⟨some 8, none, .mov (.tmp 0)⟩,
 ⟨some 9, none, .nilck (.tmp 8)⟩,
 ⟨some 10, none, .fad (.tmp 9) 1⟩,
 ⟨some 11, none, .ld1 (.tmp 10)⟩,
 ⟨some 12, none, .mov (.tmp 1)⟩,
 ⟨some 13, none, .lits [(.int .u8 0)] 1 [(0, 1, (.tmp 12))]⟩,
 ⟨some 14, none, .app 1 1 (Option.some 5) (.tmp 11) (.tmp 13)⟩,
 ⟨some 15, none, .nilck (.tmp 7)⟩,
 ⟨some 16, none, .fad (.tmp 15) 1⟩,
 ⟨none, none, .st 1 (.tmp 16) (.tmp 14)⟩])
 (.seq (.ops [⟨some 4, none, .mov (.const .nilIface)⟩])
 .ret))))⟩
theorem ok56 : compF Tryz.prog Tryz.f56 = some c56 := by kernel_rfl
def c57 : CF := ⟨54, [.tmp 4],
 (.seq (.ops [⟨some 4, none, .mov (.const (.string ⟨#[]⟩))⟩])
 (.seq (.seq (.ops [⟨some 10, none, .mov (.tmp 1)⟩,
 ⟨some 11, none, .bin .eql (.tmp 10) (.const (.int .i64 10))⟩])
 (.cond (.tmp 11)
 (.seq (.seq (.ops [⟨some 12, none, .mov (.tmp 0)⟩,
 ⟨some 13, none, .bin .leq (.const (.int .i64 0)) (.tmp 12)⟩,
 ⟨some 14, none, .mov (.tmp 13)⟩,
 ⟨some 15, (some (14, true)), .mov (.tmp 0)⟩,
 ⟨some 16, (some (14, true)), .bin .lss (.tmp 15) (.const (.int .i64 100))⟩,
 ⟨some 17, none, .pick (.tmp 14) (.tmp 16) (.const (.bool false))⟩])
 (.cond (.tmp 17)
 (.seq (.ops [⟨some 18, none, .mov (.tmp 0)⟩,
 ⟨some 19, none, .call (.func 104) [(.tmp 18)]⟩,
 ⟨some 4, none, .mov (.tmp 19)⟩])
 .ret)
 .skip))
 (.seq (.ops [⟨some 5, none, .newz [(.int .u8 0), (.int .u8 0), (.int .u8 0), (.int .u8 0), (.int .u8 0), (.int .u8 0), (.int .u8 0), (.int .u8 0), (.int .u8 0), (.int .u8 0), (.int .u8 0), (.int .u8 0), (.int .u8 0), (.int .u8 0), (.int .u8 0), (.int .u8 0), (.int .u8 0), (.int .u8 0), (.int .u8 0), (.int .u8 0), (.int .u8 0), (.int .u8 0), (.int .u8 0), (.int .u8 0)]⟩])
 (.seq (.ops [⟨some 20, none, .mov (.tmp 0)⟩,
 ⟨some 21, none, .cvi .u64 (.tmp 20)⟩,
 ⟨some 6, none, .mov (.tmp 21)⟩])
 (.seq (.seq (.ops [⟨some 22, none, .mov (.tmp 0)⟩,
 ⟨some 23, none, .bin .lss (.tmp 22) (.const (.int .i64 0))⟩])
 (.cond (.tmp 23)
 (.ops [⟨some 24, none, .mov (.tmp 6)⟩,
 ⟨some 25, none, .un .neg (.tmp 24)⟩,
 ⟨some 6, none, .mov (.tmp 25)⟩])
 .skip))
 (.seq (.ops [⟨some 26, none, .mov (.tmp 6)⟩,
 ⟨some 27, none, .call (.func 105) [(.tmp 26)]⟩,
 ⟨some 7, none, .mov (.tmp 27)⟩])
 (.seq (.ops [⟨some 28, none, .mov (.tmp 7)⟩,
 ⟨some 29, none, .bin .add (.const (.int .i64 1)) (.tmp 28)⟩,
 ⟨some 30, none, .sla 24 1 (.tmp 5) (some (.const (.int .i64 1))) (some (.tmp 29)) none⟩,
 ⟨some 31, none, .mov (.tmp 6)⟩,
 ⟨some 32, none, .call (.func 106) [(.tmp 30), (.tmp 31)]⟩])
 (.seq (.seq (.ops [⟨some 33, none, .mov (.tmp 0)⟩,
 ⟨some 34, none, .bin .lss (.tmp 33) (.const (.int .i64 0))⟩])
 (.cond (.tmp 34)
 (.seq (.ops [⟨some 35, none, .iaa 24 1 (.tmp 5) (.const (.int .i64 0))⟩,
 ⟨none, none, .st 1 (.tmp 35) (.const (.int .u8 45))⟩])
 (.seq (.ops [⟨some 36, none, .mov (.tmp 7)⟩,
 ⟨some 37, none, .bin .add (.const (.int .i64 1)) (.tmp 36)⟩,
 ⟨some 38, none, .sla 24 1 (.tmp 5) none (some (.tmp 37)) none⟩,
 ⟨some 39, none, .cvt (.tmp 38)⟩,
 ⟨some 4, none, .mov (.tmp 39)⟩])
 .ret))
 .skip))
 (.seq (.ops [⟨some 40, none, .mov (.tmp 7)⟩,
 ⟨some 41, none, .bin .add (.const (.int .i64 1)) (.tmp 40)⟩,
 ⟨some 42, none, .sla 24 1 (.tmp 5) (some (.const (.int .i64 1))) (some (.tmp 41)) none⟩,
 ⟨some 43, none, .cvt (.tmp 42)⟩,
 ⟨some 4, none, .mov (.tmp 43)⟩])
 .ret))))))))
 .skip))
 (.seq (.ops [⟨some 45, none, .mov (.tmp 0)⟩,
 ⟨some 46, none, .cvi .u64 (.tmp 45)⟩,
 ⟨some 47, none, .mov (.tmp 1)⟩,
 ⟨some 48, none, .mov (.tmp 0)⟩,
 ⟨some 49, none, .bin .lss (.tmp 48) (.const (.int .i64 0))⟩,
 ⟨some 50, none, .call (.func 107) [(.const (.slice none 0 0)), (.tmp 46), (.tmp 47), (.tmp 49), (.const (.bool false))]⟩,
 ⟨some 44, none, .mov (.tmp 50)⟩,
 ⟨some 51, none, .ext (.tmp 44) 0⟩,
 ⟨some 52, none, .ext (.tmp 44) 1⟩,
 ⟨some 8, none, .mov (.tmp 51)⟩,
 ⟨some 9, none, .mov (.tmp 52)⟩])
 (.seq (.ops [⟨some 53, none, .mov (.tmp 9)⟩,
 ⟨some 4, none, .mov (.tmp 53)⟩])
 .ret))))⟩
theorem ok57 : compF Tryz.prog Tryz.f57 = some c57 := by kernel_rfl
def c58 : CF := ⟨14, [.tmp 2, .tmp 3],
 (.seq (.ops [⟨some 2, none, .mov (.const (.int .i64 0))⟩,
 ⟨some 3, none, .mov (.const (.int .i64 0))⟩])
 (.seq (.ops [⟨some 7, none, .mov (.tmp 0)⟩,
 ⟨some 8, none, .call (.func 48) [(.tmp 7)]⟩,
 ⟨some 6, none, .mov (.tmp 8)⟩,
 ⟨some 9, none, .ext (.tmp 6) 0⟩,
 ⟨some 10, none, .ext (.tmp 6) 1⟩,
 ⟨some 11, none, .ext (.tmp 6) 2⟩,
 ⟨some 4, none, .mov (.tmp 9)⟩,
 ⟨some 5, none, .mov (.tmp 10)⟩,
 ⟨some 3, none, .mov (.tmp 11)⟩])
 (.seq (.ops [⟨some 12, none, .mov (.tmp 5)⟩,
 ⟨some 13, none, .mov (.tmp 3)⟩,
 ⟨some 2, none, .mov (.tmp 12)⟩,
 ⟨some 3, none, .mov (.tmp 13)⟩])
 .ret)))⟩
theorem ok58 : compF Tryz.prog Tryz.f58 = some c58 := by kernel_rfl
def c59 : CF := ⟨69, [.tmp 4, .tmp 5],
 (.seq (.ops [⟨some 4, none, .mov (.const (.bool false))⟩,
 ⟨some 5, none, .mov (.const (.bool false))⟩])
 (.seq (.seq (.ops [⟨some 11, none, .mov (.tmp 0)⟩,
 ⟨some 12, none, .nilck (.tmp 11)⟩,
 ⟨some 13, none, .fad (.tmp 12) 0⟩,
 ⟨some 14, none, .ld1 (.tmp 13)⟩,
 ⟨some 15, none, .mov (.tmp 1)⟩,
 ⟨some 16, none, .iad 7 (.tmp 14) (.tmp 15)⟩,
 ⟨some 17, none, .fad (.tmp 16) 0⟩,
 ⟨some 18, none, .ld1 (.tmp 17)⟩])
 (.block 0 (.seq (.seq (.ops [⟨some 20, none, .bin .eql (.tmp 18) (.const (.int .i64 1))⟩,
 ⟨some 19, none, .mov (.tmp 20)⟩])
 (.cond (.tmp 19)
 .skip
 (.ops [⟨some 21, none, .bin .eql (.tmp 18) (.const (.int .i64 2))⟩,
 ⟨some 19, none, .mov (.tmp 21)⟩])))
 (.cond (.tmp 19)
 (.seq (.ops [⟨some 4, none, .mov (.const (.bool true))⟩,
 ⟨some 5, none, .mov (.const (.bool false))⟩])
 .ret)
 (.seq (.ops [⟨some 23, none, .bin .eql (.tmp 18) (.const (.int .i64 3))⟩,
 ⟨some 22, none, .mov (.tmp 23)⟩])
 (.cond (.tmp 22)
 (.seq (.draw [⟨some 24, none, .mov (.tmp 0)⟩,
 ⟨some 25, none, .nilck (.tmp 24)⟩,
 ⟨some 26, none, .fad (.tmp 25) 0⟩,
 ⟨some 27, none, .ld1 (.tmp 26)⟩,
 ⟨some 28, none, .mov (.tmp 1)⟩,
 ⟨some 29, none, .bin .add (.tmp 28) (.const (.int .i64 1))⟩,
 ⟨some 30, none, .iad 7 (.tmp 27) (.tmp 29)⟩,
 ⟨some 31, none, .fad (.tmp 30) 0⟩,
 ⟨some 32, none, .ld1 (.tmp 31)⟩,
 ⟨some 33, none, .bin .eql (.tmp 32) (.const (.int .i64 5))⟩,
 ⟨some 4, none, .mov (.const (.bool true))⟩,
 ⟨some 5, none, .mov (.tmp 33)⟩] [(0, 4), (1, 4), (2, 4), (3, 4), (0, 5), (1, 5), (2, 5), (3, 5), (0, 10), (1, 10), (2, 10), (3, 10), (4, 10), (5, 10), (6, 10), (7, 10), (8, 10), (9, 10)])
 .ret)
 (.seq (.ops [⟨some 35, none, .bin .eql (.tmp 18) (.const (.int .i64 24))⟩,
 ⟨some 34, none, .mov (.tmp 35)⟩])
 (.cond (.tmp 34)
 (.seq (.ops [⟨some 36, none, .mov (.tmp 0)⟩,
 ⟨some 37, none, .mov (.tmp 1)⟩,
 ⟨some 38, none, .call (.func 108) [(.tmp 36), (.tmp 37)]⟩,
 ⟨some 6, none, .mov (.tmp 38)⟩])
 (.seq (.ops [⟨some 40, none, .mov (.tmp 0)⟩,
 ⟨some 41, none, .mov (.tmp 6)⟩,
 ⟨some 42, none, .iad 1 (.tmp 41) (.const (.int .i64 0))⟩,
 ⟨some 43, none, .ld1 (.tmp 42)⟩,
 ⟨some 44, none, .call (.func 59) [(.tmp 40), (.tmp 43)]⟩,
 ⟨some 39, none, .mov (.tmp 44)⟩,
 ⟨some 45, none, .ext (.tmp 39) 0⟩,
 ⟨some 46, none, .ext (.tmp 39) 1⟩,
 ⟨some 7, none, .mov (.tmp 45)⟩,
 ⟨some 8, none, .mov (.tmp 46)⟩])
 (.seq (.ops [⟨some 48, none, .mov (.tmp 0)⟩,
 ⟨some 49, none, .mov (.tmp 6)⟩,
 ⟨some 50, none, .iad 1 (.tmp 49) (.const (.int .i64 1))⟩,
 ⟨some 51, none, .ld1 (.tmp 50)⟩,
 ⟨some 52, none, .call (.func 59) [(.tmp 48), (.tmp 51)]⟩,
 ⟨some 47, none, .mov (.tmp 52)⟩,
 ⟨some 53, none, .ext (.tmp 47) 0⟩,
 ⟨some 54, none, .ext (.tmp 47) 1⟩,
 ⟨some 9, none, .mov (.tmp 53)⟩,
 ⟨some 10, none, .mov (.tmp 54)⟩])
 (.seq (.ops [⟨some 55, none, .mov (.tmp 7)⟩,
 ⟨some 56, none, .mov (.tmp 55)⟩,
 ⟨some 57, (some (56, true)), .mov (.tmp 9)⟩,
 ⟨some 58, none, .pick (.tmp 56) (.tmp 57) (.const (.bool false))⟩,
 ⟨some 59, none, .mov (.tmp 58)⟩,
 ⟨some 60, (some (59, true)), .mov (.tmp 10)⟩,
 ⟨some 61, none, .pick (.tmp 59) (.tmp 60) (.const (.bool false))⟩,
 ⟨some 62, none, .mov (.tmp 7)⟩,
 ⟨some 63, none, .mov (.tmp 62)⟩,
 ⟨some 64, (some (63, true)), .mov (.tmp 9)⟩,
 ⟨some 65, none, .pick (.tmp 63) (.tmp 64) (.const (.bool false))⟩,
 ⟨some 66, none, .mov (.tmp 65)⟩,
 ⟨some 67, (some (66, true)), .mov (.tmp 10)⟩,
 ⟨some 68, none, .pick (.tmp 66) (.tmp 67) (.const (.bool false))⟩,
 ⟨some 4, none, .mov (.tmp 61)⟩,
 ⟨some 5, none, .mov (.tmp 68)⟩])
 .ret))))
 .skip))))))))
 (.seq (.ops [⟨some 4, none, .mov (.const (.bool false))⟩,
 ⟨some 5, none, .mov (.const (.bool false))⟩])
 .ret)))⟩
theorem ok59 : compF Tryz.prog Tryz.f59 = some c59 := by kernel_rfl
def c60 : CF := ⟨75, [.tmp 6],
 (.seq (.ops [⟨some 6, none, .mov (.const (.slice none 0 0))⟩])
 (.seq (.ops [⟨some 11, none, .mov (.tmp 0)⟩,
 ⟨some 12, none, .nilck (.tmp 11)⟩,
 ⟨some 13, none, .fad (.tmp 12) 0⟩,
 ⟨some 14, none, .ld1 (.tmp 13)⟩,
 ⟨some 15, none, .nilck (.tmp 14)⟩,
 ⟨some 16, none, .fad (.tmp 15) 0⟩,
 ⟨some 17, none, .ld1 (.tmp 16)⟩,
 ⟨some 18, none, .mov (.tmp 1)⟩,
 ⟨some 19, none, .iad 7 (.tmp 17) (.tmp 18)⟩,
 ⟨some 20, none, .ld 7 (.tmp 19)⟩,
 ⟨some 7, none, .newz [(.int .i64 0), (.int .i64 0), (.int .i64 0), (.string ⟨#[]⟩), (.int .i64 0), (.int .i64 0), (.int .i64 0)]⟩,
 ⟨none, none, .st 7 (.tmp 7) (.tmp 20)⟩])
 (.seq (.seq (.ops [⟨some 21, none, .fad (.tmp 7) 0⟩,
 ⟨some 22, none, .ld1 (.tmp 21)⟩])
 (.block 0 (.seq (.ops [⟨some 24, none, .bin .eql (.tmp 22) (.const (.int .i64 1))⟩,
 ⟨some 23, none, .mov (.tmp 24)⟩])
 (.cond (.tmp 23)
 (.seq (.ops [⟨some 25, none, .mov (.tmp 0)⟩,
 ⟨some 26, none, .fad (.tmp 7) 2⟩,
 ⟨some 27, none, .ld1 (.tmp 26)⟩,
 ⟨some 28, none, .agg [(.int .i64 0), (.int .i64 0), (.int .i64 0), (.string ⟨#[]⟩), (.int .i32 0), (.int .i32 0)] [(0, 1, (.const (.int .i64 1))), (2, 1, (.tmp 27))]⟩,
 ⟨some 29, none, .mov (.tmp 1)⟩,
 ⟨some 30, none, .call (.func 109) [(.tmp 25), (.tmp 28), (.tmp 29), (.const (.slice none 0 0))]⟩,
 ⟨some 6, none, .mov (.tmp 30)⟩])
 .ret)
 (.seq (.ops [⟨some 32, none, .bin .eql (.tmp 22) (.const (.int .i64 2))⟩,
 ⟨some 31, none, .mov (.tmp 32)⟩])
 (.cond (.tmp 31)
 (.seq (.ops [⟨some 33, none, .mov (.tmp 0)⟩,
 ⟨some 34, none, .fad (.tmp 7) 2⟩,
 ⟨some 35, none, .ld1 (.tmp 34)⟩,
 ⟨some 36, none, .mov (.tmp 1)⟩,
 ⟨some 37, none, .call (.func 110) [(.tmp 33), (.tmp 35), (.tmp 36)]⟩,
 ⟨some 6, none, .mov (.tmp 37)⟩])
 .ret)
 (.seq (.ops [⟨some 39, none, .bin .eql (.tmp 22) (.const (.int .i64 4))⟩,
 ⟨some 38, none, .mov (.tmp 39)⟩])
 (.cond (.tmp 38)
 (.seq (.ops [⟨some 40, none, .mov (.tmp 0)⟩,
 ⟨some 41, none, .fad (.tmp 7) 3⟩,
 ⟨some 42, none, .ld1 (.tmp 41)⟩,
 ⟨some 43, none, .agg [(.int .i64 0), (.int .i64 0), (.int .i64 0), (.string ⟨#[]⟩), (.int .i32 0), (.int .i32 0)] [(0, 1, (.const (.int .i64 3))), (3, 1, (.tmp 42))]⟩,
 ⟨some 44, none, .mov (.tmp 1)⟩,
 ⟨some 45, none, .call (.func 109) [(.tmp 40), (.tmp 43), (.tmp 44), (.const (.slice none 0 0))]⟩,
 ⟨some 6, none, .mov (.tmp 45)⟩])
 .ret)
 .skip))))))))
 (.seq (.ops [⟨some 46, none, .mov (.tmp 0)⟩,
 ⟨some 47, none, .nilck (.tmp 46)⟩,
 ⟨some 48, none, .fad (.tmp 47) 0⟩,
 ⟨some 49, none, .ld1 (.tmp 48)⟩,
 ⟨some 50, none, .mov (.tmp 1)⟩,
 ⟨some 51, none, .call (.func 108) [(.tmp 49), (.tmp 50)]⟩,
 ⟨some 8, none, .mov (.tmp 51)⟩])
 (.seq (.ops [⟨some 52, none, .mov (.tmp 0)⟩,
 ⟨some 53, none, .mov (.tmp 1)⟩,
 ⟨some 54, none, .call (.func 77) [(.tmp 52), (.tmp 53)]⟩,
 ⟨some 9, none, .mov (.tmp 54)⟩])
 (.seq (.seq (.ops [⟨some 55, none, .mov (.tmp 8)⟩,
 ⟨some 56, none, .lnl (.tmp 55)⟩,
 ⟨some 57, none, .bin .sub (.tmp 56) (.const (.int .i64 1))⟩,
 ⟨some 10, none, .mov (.tmp 57)⟩])
 (.block 1 (.loop (.seq (.seq (.ops [⟨some 58, none, .mov (.tmp 10)⟩,
 ⟨some 59, none, .bin .geq (.tmp 58) (.const (.int .i64 0))⟩])
 (.cond (.tmp 59)
 .skip
 (.exit 1)))
 (.seq (.block 2 (.ops [⟨some 62, none, .mov (.tmp 0)⟩,
 ⟨some 63, none, .agg [(.int .i64 0), (.int .i64 0), (.int .i64 0), (.string ⟨#[]⟩), (.int .i32 0), (.int .i32 0)] [(0, 1, (.const (.int .i64 5)))]⟩,
 ⟨some 64, none, .mov (.tmp 1)⟩,
 ⟨some 65, none, .mov (.tmp 0)⟩,
 ⟨some 66, none, .mov (.tmp 8)⟩,
 ⟨some 67, none, .mov (.tmp 10)⟩,
 ⟨some 68, none, .iad 1 (.tmp 66) (.tmp 67)⟩,
 ⟨some 69, none, .ld1 (.tmp 68)⟩,
 ⟨some 70, none, .call (.func 60) [(.tmp 65), (.tmp 69), (.const (.slice none 0 0))]⟩,
 ⟨some 71, none, .mov (.tmp 9)⟩,
 ⟨some 72, none, .lits [(.slice none 0 0), (.slice none 0 0)] 2 [(0, 1, (.tmp 70)), (1, 1, (.tmp 71))]⟩,
 ⟨some 73, none, .call (.func 109) [(.tmp 62), (.tmp 63), (.tmp 64), (.tmp 72)]⟩,
 ⟨some 9, none, .mov (.tmp 73)⟩]))
 (.ops [⟨some 60, none, .mov (.tmp 10)⟩,
 ⟨some 61, none, .bin .sub (.tmp 60) (.const (.int .i64 1))⟩,
 ⟨some 10, none, .mov (.tmp 61)⟩]))))))
 (.seq (.ops [⟨some 74, none, .mov (.tmp 9)⟩,
 ⟨some 6, none, .mov (.tmp 74)⟩])
 .ret)))))))⟩
theorem ok60 : compF Tryz.prog Tryz.f60 = some c60 := by kernel_rfl
def c61 : CF := ⟨11, [.tmp 6],
 (.seq (.ops [⟨some 6, none, .mov (.const (.slice none 0 0))⟩])
 (.seq (.ops [⟨some 7, none, .mov (.tmp 0)⟩,
 ⟨some 8, none, .mov (.tmp 1)⟩,
 ⟨some 9, none, .bin .add (.tmp 8) (.const (.int .i64 1))⟩,
 ⟨some 10, none, .call (.func 60) [(.tmp 7), (.tmp 9), (.const (.slice none 0 0))]⟩,
 ⟨some 6, none, .mov (.tmp 10)⟩])
 .ret))⟩
theorem ok61 : compF Tryz.prog Tryz.f61 = some c61 := by kernel_rfl
def c62 : CF := ⟨24, [.tmp 6],
 (.seq (.ops [⟨some 6, none, .mov (.const (.slice none 0 0))⟩])
 (.seq (.ops [⟨some 7, none, .mov (.tmp 0)⟩,
 ⟨some 8, none, .mov (.tmp 2)⟩,
 ⟨some 9, none, .mov (.tmp 0)⟩,
 ⟨some 10, none, .nilck (.tmp 9)⟩,
 ⟨some 11, none, .fad (.tmp 10) 0⟩,
 ⟨some 12, none, .ld1 (.tmp 11)⟩,
 ⟨some 13, none, .nilck (.tmp 12)⟩,
 ⟨some 14, none, .fad (.tmp 13) 0⟩,
 ⟨some 15, none, .ld1 (.tmp 14)⟩,
 ⟨some 16, none, .mov (.tmp 1)⟩,
 ⟨some 17, none, .iad 7 (.tmp 15) (.tmp 16)⟩,
 ⟨some 18, none, .fad (.tmp 17) 2⟩,
 ⟨some 19, none, .ld1 (.tmp 18)⟩,
 ⟨some 20, none, .call (.func 111) [(.tmp 8), (.tmp 19)]⟩,
 ⟨some 21, none, .agg [(.int .i64 0), (.int .i64 0), (.int .i64 0), (.string ⟨#[]⟩), (.int .i32 0), (.int .i32 0)] [(0, 1, (.const (.int .i64 7))), (2, 1, (.tmp 20))]⟩,
 ⟨some 22, none, .mov (.tmp 1)⟩,
 ⟨some 23, none, .call (.func 109) [(.tmp 7), (.tmp 21), (.tmp 22), (.const (.slice none 0 0))]⟩,
 ⟨some 6, none, .mov (.tmp 23)⟩])
 .ret))⟩
theorem ok62 : compF Tryz.prog Tryz.f62 = some c62 := by kernel_rfl
def c63 : CF := ⟨22, [.tmp 6],
 (.seq (.ops [⟨some 6, none, .mov (.const (.slice none 0 0))⟩])
 (.seq (.ops [⟨some 7, none, .mov (.tmp 0)⟩,
 ⟨some 8, none, .mov (.tmp 0)⟩,
 ⟨some 9, none, .nilck (.tmp 8)⟩,
 ⟨some 10, none, .fad (.tmp 9) 0⟩,
 ⟨some 11, none, .ld1 (.tmp 10)⟩,
 ⟨some 12, none, .nilck (.tmp 11)⟩,
 ⟨some 13, none, .fad (.tmp 12) 0⟩,
 ⟨some 14, none, .ld1 (.tmp 13)⟩,
 ⟨some 15, none, .mov (.tmp 1)⟩,
 ⟨some 16, none, .iad 7 (.tmp 14) (.tmp 15)⟩,
 ⟨some 17, none, .fad (.tmp 16) 3⟩,
 ⟨some 18, none, .ld1 (.tmp 17)⟩,
 ⟨some 19, none, .agg [(.int .i64 0), (.int .i64 0), (.int .i64 0), (.string ⟨#[]⟩), (.int .i32 0), (.int .i32 0)] [(0, 1, (.const (.int .i64 6))), (3, 1, (.tmp 18))]⟩,
 ⟨some 20, none, .mov (.tmp 1)⟩,
 ⟨some 21, none, .call (.func 109) [(.tmp 7), (.tmp 19), (.tmp 20), (.const (.slice none 0 0))]⟩,
 ⟨some 6, none, .mov (.tmp 21)⟩])
 .ret))⟩
theorem ok63 : compF Tryz.prog Tryz.f63 = some c63 := by kernel_rfl
def c64 : CF := ⟨28, [.tmp 6],
 (.seq (.ops [⟨some 6, none, .mov (.const (.slice none 0 0))⟩])
 (.seq (.ops [⟨some 11, none, .mov (.tmp 0)⟩,
 ⟨some 12, none, .mov (.tmp 1)⟩,
 ⟨some 13, none, .call (.func 112) [(.tmp 11), (.tmp 12)]⟩,
 ⟨some 10, none, .mov (.tmp 13)⟩,
 ⟨some 14, none, .ext (.tmp 10) 0⟩,
 ⟨some 15, none, .ext (.tmp 10) 1⟩,
 ⟨some 16, none, .ext (.tmp 10) 2⟩,
 ⟨some 7, none, .mov (.tmp 14)⟩,
 ⟨some 8, none, .mov (.tmp 15)⟩,
 ⟨some 9, none, .mov (.tmp 16)⟩])
 (.seq (.ops [⟨some 17, none, .mov (.tmp 0)⟩,
 ⟨some 18, none, .mov (.tmp 7)⟩,
 ⟨some 19, none, .lnl (.tmp 18)⟩,
 ⟨some 20, none, .mov (.tmp 1)⟩,
 ⟨some 21, none, .mov (.tmp 0)⟩,
 ⟨some 22, none, .mov (.tmp 9)⟩,
 ⟨some 23, none, .mov (.tmp 2)⟩,
 ⟨some 24, none, .mov (.tmp 7)⟩,
 ⟨some 25, none, .call (.func 114) [(.tmp 23), (.tmp 24)]⟩,
 ⟨some 26, none, .call (.func 36) [(.tmp 21), (.tmp 22), (.tmp 25)]⟩,
 ⟨some 27, none, .call (.func 113) [(.tmp 17), (.const (.int .i32 0)), (.tmp 19), (.tmp 20), (.tmp 26)]⟩,
 ⟨some 6, none, .mov (.tmp 27)⟩])
 .ret)))⟩
theorem ok64 : compF Tryz.prog Tryz.f64 = some c64 := by kernel_rfl
def c65 : CF := ⟨19, [.tmp 6],
 (.seq (.ops [⟨some 6, none, .mov (.const (.slice none 0 0))⟩])
 (.seq (.ops [⟨some 7, none, .mov (.tmp 0)⟩,
 ⟨some 8, none, .mov (.tmp 1)⟩,
 ⟨some 9, none, .mov (.tmp 0)⟩,
 ⟨some 10, none, .mov (.tmp 0)⟩,
 ⟨some 11, none, .nilck (.tmp 10)⟩,
 ⟨some 12, none, .fad (.tmp 11) 0⟩,
 ⟨some 13, none, .ld1 (.tmp 12)⟩,
 ⟨some 14, none, .mov (.tmp 1)⟩,
 ⟨some 15, none, .call (.func 108) [(.tmp 13), (.tmp 14)]⟩,
 ⟨some 16, none, .mov (.tmp 2)⟩,
 ⟨some 17, none, .call (.func 116) [(.tmp 9), (.tmp 15), (.tmp 16)]⟩,
 ⟨some 18, none, .call (.func 115) [(.tmp 7), (.const (.int .i32 0)), (.tmp 8), (.tmp 17)]⟩,
 ⟨some 6, none, .mov (.tmp 18)⟩])
 .ret))⟩
theorem ok65 : compF Tryz.prog Tryz.f65 = some c65 := by kernel_rfl
def c66 : CF := ⟨19, [.tmp 6],
 (.seq (.ops [⟨some 6, none, .mov (.const (.slice none 0 0))⟩])
 (.seq (.ops [⟨some 7, none, .mov (.tmp 0)⟩,
 ⟨some 8, none, .mov (.tmp 1)⟩,
 ⟨some 9, none, .mov (.tmp 0)⟩,
 ⟨some 10, none, .mov (.tmp 0)⟩,
 ⟨some 11, none, .nilck (.tmp 10)⟩,
 ⟨some 12, none, .fad (.tmp 11) 0⟩,
 ⟨some 13, none, .ld1 (.tmp 12)⟩,
 ⟨some 14, none, .mov (.tmp 1)⟩,
 ⟨some 15, none, .call (.func 108) [(.tmp 13), (.tmp 14)]⟩,
 ⟨some 16, none, .mov (.tmp 2)⟩,
 ⟨some 17, none, .call (.func 116) [(.tmp 9), (.tmp 15), (.tmp 16)]⟩,
 ⟨some 18, none, .call (.func 117) [(.tmp 7), (.const (.int .i32 0)), (.tmp 8), (.tmp 17)]⟩,
 ⟨some 6, none, .mov (.tmp 18)⟩])
 .ret))⟩
theorem ok66 : compF Tryz.prog Tryz.f66 = some c66 := by kernel_rfl
def c67 : CF := ⟨20, [.tmp 6],
 (.seq (.ops [⟨some 6, none, .mov (.const (.slice none 0 0))⟩])
 (.seq (.ops [⟨some 7, none, .mov (.tmp 0)⟩,
 ⟨some 8, none, .agg [(.int .i64 0), (.int .i64 0), (.int .i64 0), (.string ⟨#[]⟩), (.int .i32 0), (.int .i32 0)] [(0, 1, (.const (.int .i64 5)))]⟩,
 ⟨some 9, none, .mov (.tmp 1)⟩,
 ⟨some 10, none, .mov (.tmp 0)⟩,
 ⟨some 11, none, .mov (.tmp 0)⟩,
 ⟨some 12, none, .nilck (.tmp 11)⟩,
 ⟨some 13, none, .fad (.tmp 12) 0⟩,
 ⟨some 14, none, .ld1 (.tmp 13)⟩,
 ⟨some 15, none, .mov (.tmp 1)⟩,
 ⟨some 16, none, .call (.func 108) [(.tmp 14), (.tmp 15)]⟩,
 ⟨some 17, none, .mov (.tmp 2)⟩,
 ⟨some 18, none, .call (.func 116) [(.tmp 10), (.tmp 16), (.tmp 17)]⟩,
 ⟨some 19, none, .call (.func 109) [(.tmp 7), (.tmp 8), (.tmp 9), (.tmp 18)]⟩,
 ⟨some 6, none, .mov (.tmp 19)⟩])
 .ret))⟩
theorem ok67 : compF Tryz.prog Tryz.f67 = some c67 := by kernel_rfl
def c68 : CF := ⟨39, [.tmp 6],
 (.seq (.ops [⟨some 6, none, .mov (.const (.slice none 0 0))⟩])
 (.seq (.ops [⟨some 12, none, .mov (.tmp 0)⟩,
 ⟨some 13, none, .mov (.tmp 1)⟩,
 ⟨some 14, none, .call (.func 112) [(.tmp 12), (.tmp 13)]⟩,
 ⟨some 11, none, .mov (.tmp 14)⟩,
 ⟨some 15, none, .ext (.tmp 11) 0⟩,
 ⟨some 16, none, .ext (.tmp 11) 1⟩,
 ⟨some 17, none, .ext (.tmp 11) 2⟩,
 ⟨some 7, none, .mov (.tmp 15)⟩,
 ⟨some 8, none, .mov (.tmp 16)⟩,
 ⟨some 9, none, .mov (.tmp 17)⟩])
 (.seq (.ops [⟨some 18, none, .mov (.tmp 0)⟩,
 ⟨some 19, none, .mov (.tmp 7)⟩,
 ⟨some 20, none, .lnl (.tmp 19)⟩,
 ⟨some 21, none, .mov (.tmp 1)⟩,
 ⟨some 22, none, .mov (.tmp 0)⟩,
 ⟨some 23, none, .mov (.tmp 9)⟩,
 ⟨some 24, none, .mov (.tmp 2)⟩,
 ⟨some 25, none, .mov (.tmp 7)⟩,
 ⟨some 26, none, .call (.func 114) [(.tmp 24), (.tmp 25)]⟩,
 ⟨some 27, none, .call (.func 36) [(.tmp 22), (.tmp 23), (.tmp 26)]⟩,
 ⟨some 28, none, .call (.func 113) [(.tmp 18), (.const (.int .i32 2)), (.tmp 20), (.tmp 21), (.tmp 27)]⟩,
 ⟨some 10, none, .mov (.tmp 28)⟩])
 (.seq (.ops [⟨some 29, none, .mov (.tmp 0)⟩,
 ⟨some 30, none, .mov (.tmp 1)⟩,
 ⟨some 31, none, .mov (.tmp 10)⟩,
 ⟨some 32, none, .lits [(.slice none 0 0)] 1 [(0, 1, (.tmp 31))]⟩,
 ⟨some 33, none, .mov (.tmp 0)⟩,
 ⟨some 34, none, .mov (.tmp 8)⟩,
 ⟨some 35, none, .mov (.tmp 2)⟩,
 ⟨some 36, none, .call (.func 116) [(.tmp 33), (.tmp 34), (.tmp 35)]⟩,
 ⟨some 37, none, .app 1 24 none (.tmp 32) (.tmp 36)⟩,
 ⟨some 38, none, .call (.func 115) [(.tmp 29), (.const (.int .i32 1)), (.tmp 30), (.tmp 37)]⟩,
 ⟨some 6, none, .mov (.tmp 38)⟩])
 .ret))))⟩
theorem ok68 : compF Tryz.prog Tryz.f68 = some c68 := by kernel_rfl
def c69 : CF := ⟨80, [.tmp 6],
 (.seq (.ops [⟨some 6, none, .mov (.const (.slice none 0 0))⟩])
 (.seq (.ops [⟨some 16, none, .mov (.tmp 0)⟩,
 ⟨some 17, none, .mov (.tmp 1)⟩,
 ⟨some 18, none, .call (.func 112) [(.tmp 16), (.tmp 17)]⟩,
 ⟨some 15, none, .mov (.tmp 18)⟩,
 ⟨some 19, none, .ext (.tmp 15) 0⟩,
 ⟨some 20, none, .ext (.tmp 15) 1⟩,
 ⟨some 21, none, .ext (.tmp 15) 2⟩,
 ⟨some 7, none, .mov (.tmp 19)⟩,
 ⟨some 8, none, .mov (.tmp 20)⟩,
 ⟨some 9, none, .mov (.tmp 21)⟩])
 (.seq (.ops [⟨some 22, none, .mov (.tmp 2)⟩,
 ⟨some 23, none, .lits [(.slice none 0 0)] 1 [(0, 1, (.tmp 22))]⟩,
 ⟨some 10, none, .mov (.tmp 23)⟩])
 (.seq (.seq (.ops [⟨some 24, none, .mov (.tmp 7)⟩,
 ⟨some 25, none, .lnl (.tmp 24)⟩,
 ⟨some 26, none, .mov (.const (.int .i64 0))⟩])
 (.block 0 (.loop (.seq (.ops [⟨some 27, none, .bin .lss (.tmp 26) (.tmp 25)⟩])
 (.seq (.cond (.tmp 27)
 .skip
 (.exit 0))
 (.seq (.block 1 (.seq (.ops [⟨some 28, none, .iad 1 (.tmp 24) (.tmp 26)⟩,
 ⟨some 29, none, .ld1 (.tmp 28)⟩,
 ⟨some 12, none, .mov (.tmp 29)⟩])
 (.ops [⟨some 30, none, .mov (.tmp 10)⟩,
 ⟨some 31, none, .mov (.tmp 10)⟩,
 ⟨some 32, none, .mov (.tmp 10)⟩,
 ⟨some 33, none, .lnl (.tmp 32)⟩,
 ⟨some 34, none, .bin .sub (.tmp 33) (.const (.int .i64 1))⟩,
 ⟨some 35, none, .iad 1 (.tmp 31) (.tmp 34)⟩,
 ⟨some 36, none, .ld1 (.tmp 35)⟩,
 ⟨some 37, none, .mov (.tmp 12)⟩,
 ⟨some 38, none, .lits [(.int .i64 0)] 1 [(0, 1, (.tmp 37))]⟩,
 ⟨some 39, none, .call (.func 114) [(.tmp 36), (.tmp 38)]⟩,
 ⟨some 40, none, .lits [(.slice none 0 0)] 1 [(0, 1, (.tmp 39))]⟩,
 ⟨some 41, none, .app 1 24 none (.tmp 30) (.tmp 40)⟩,
 ⟨some 10, none, .mov (.tmp 41)⟩])))
 (.ops [⟨some 42, none, .bin .add (.tmp 26) (.const (.int .i64 1))⟩,
 ⟨some 26, none, .mov (.tmp 42)⟩])))))))
 (.seq (.ops [⟨some 43, none, .mov (.tmp 0)⟩,
 ⟨some 44, none, .mov (.tmp 1)⟩,
 ⟨some 45, none, .mov (.tmp 0)⟩,
 ⟨some 46, none, .mov (.tmp 9)⟩,
 ⟨some 47, none, .mov (.tmp 10)⟩,
 ⟨some 48, none, .mov (.tmp 7)⟩,
 ⟨some 49, none, .lnl (.tmp 48)⟩,
 ⟨some 50, none, .iad 1 (.tmp 47) (.tmp 49)⟩,
 ⟨some 51, none, .ld1 (.tmp 50)⟩,
 ⟨some 52, none, .call (.func 36) [(.tmp 45), (.tmp 46), (.tmp 51)]⟩,
 ⟨some 53, none, .call (.func 118) [(.tmp 43), (.const (.int .i32 5)), (.tmp 44), (.tmp 52)]⟩,
 ⟨some 13, none, .mov (.tmp 53)⟩])
 (.seq (.seq (.ops [⟨some 54, none, .mov (.tmp 7)⟩,
 ⟨some 55, none, .lnl (.tmp 54)⟩,
 ⟨some 56, none, .bin .sub (.tmp 55) (.const (.int .i64 1))⟩,
 ⟨some 14, none, .mov (.tmp 56)⟩])
 (.block 2 (.loop (.seq (.seq (.ops [⟨some 57, none, .mov (.tmp 14)⟩,
 ⟨some 58, none, .bin .geq (.tmp 57) (.const (.int .i64 0))⟩])
 (.cond (.tmp 58)
 .skip
 (.exit 2)))
 (.seq (.block 3 (.draw [⟨some 61, none, .mov (.tmp 0)⟩,
 ⟨some 62, none, .mov (.tmp 1)⟩,
 ⟨some 63, none, .mov (.tmp 0)⟩,
 ⟨some 64, none, .mov (.tmp 1)⟩,
 ⟨some 65, none, .mov (.tmp 13)⟩,
 ⟨some 66, none, .call (.func 113) [(.tmp 63), (.const (.int .i32 4)), (.const (.int .i64 1)), (.tmp 64), (.tmp 65)]⟩,
 ⟨some 67, none, .mov (.tmp 0)⟩,
 ⟨some 68, none, .mov (.tmp 8)⟩,
 ⟨some 69, none, .mov (.tmp 14)⟩,
 ⟨some 70, none, .iad 1 (.tmp 68) (.tmp 69)⟩,
 ⟨some 71, none, .ld1 (.tmp 70)⟩,
 ⟨some 72, none, .mov (.tmp 10)⟩,
 ⟨some 73, none, .mov (.tmp 14)⟩,
 ⟨some 74, none, .iad 1 (.tmp 72) (.tmp 73)⟩,
 ⟨some 75, none, .ld1 (.tmp 74)⟩,
 ⟨some 76, none, .call (.func 36) [(.tmp 67), (.tmp 71), (.tmp 75)]⟩,
 ⟨some 77, none, .lits [(.slice none 0 0), (.slice none 0 0)] 2 [(0, 1, (.tmp 66)), (1, 1, (.tmp 76))]⟩,
 ⟨some 78, none, .call (.func 115) [(.tmp 61), (.const (.int .i32 3)), (.tmp 62), (.tmp 77)]⟩,
 ⟨some 13, none, .mov (.tmp 78)⟩] [(0, 1), (0, 2), (1, 2), (0, 3), (1, 3), (2, 3), (0, 4), (1, 4), (2, 4), (3, 4), (0, 5), (1, 5), (0, 6), (1, 6), (2, 6), (3, 6), (4, 6), (5, 6), (0, 7), (1, 7), (2, 7), (3, 7), (4, 7), (5, 7), (6, 7), (0, 8), (1, 8), (2, 8), (3, 8), (4, 8), (5, 8), (6, 8), (7, 8), (0, 9), (1, 9), (2, 9), (3, 9), (4, 9), (5, 9), (6, 9), (0, 10), (1, 10), (2, 10), (3, 10), (4, 10), (5, 10), (6, 10), (0, 11), (1, 11), (2, 11), (3, 11), (4, 11), (5, 11), (6, 11), (7, 11), (8, 11), (9, 11), (10, 11), (0, 12), (1, 12), (2, 12), (3, 12), (4, 12), (5, 12), (6, 12), (7, 12), (8, 12), (9, 12), (10, 12), (11, 12), (0, 13), (1, 13), (2, 13), (3, 13), (4, 13), (5, 13), (6, 13), (7, 13), (8, 13), (9, 13), (10, 13), (0, 14), (1, 14), (2, 14), (3, 14), (4, 14), (5, 14), (6, 14), (7, 14), (8, 14), (9, 14), (10, 14), (0, 15), (1, 15), (0, 16), (1, 16)]))
 (.ops [⟨some 59, none, .mov (.tmp 14)⟩,
 ⟨some 60, none, .bin .sub (.tmp 59) (.const (.int .i64 1))⟩,
 ⟨some 14, none, .mov (.tmp 60)⟩]))))))
 (.seq (.ops [⟨some 79, none, .mov (.tmp 13)⟩,
 ⟨some 6, none, .mov (.tmp 79)⟩])
 .ret)))))))⟩
theorem ok69 : compF Tryz.prog Tryz.f69 = some c69 := by kernel_rfl
def c70 : CF := ⟨44, [.tmp 6],
 (.seq (.ops [⟨some 6, none, .mov (.const (.slice none 0 0))⟩])
 (.seq (.ops [⟨some 12, none, .mov (.tmp 0)⟩,
 ⟨some 13, none, .mov (.tmp 1)⟩,
 ⟨some 14, none, .call (.func 112) [(.tmp 12), (.tmp 13)]⟩,
 ⟨some 11, none, .mov (.tmp 14)⟩,
 ⟨some 15, none, .ext (.tmp 11) 0⟩,
 ⟨some 16, none, .ext (.tmp 11) 1⟩,
 ⟨some 17, none, .ext (.tmp 11) 2⟩,
 ⟨some 7, none, .mov (.tmp 15)⟩,
 ⟨some 8, none, .mov (.tmp 16)⟩,
 ⟨some 9, none, .mov (.tmp 17)⟩])
 (.seq (.seq (.ops [⟨some 18, none, .mov (.tmp 7)⟩,
 ⟨some 19, none, .lnl (.tmp 18)⟩,
 ⟨some 20, none, .bin .eql (.tmp 19) (.const (.int .i64 0))⟩])
 (.cond (.tmp 20)
 (.seq (.ops [⟨some 21, none, .mov (.tmp 0)⟩,
 ⟨some 22, none, .mov (.tmp 1)⟩,
 ⟨some 23, none, .mov (.tmp 0)⟩,
 ⟨some 24, none, .mov (.tmp 9)⟩,
 ⟨some 25, none, .mov (.tmp 2)⟩,
 ⟨some 26, none, .call (.func 36) [(.tmp 23), (.tmp 24), (.tmp 25)]⟩,
 ⟨some 27, none, .call (.func 118) [(.tmp 21), (.const (.int .i32 26)), (.tmp 22), (.tmp 26)]⟩,
 ⟨some 6, none, .mov (.tmp 27)⟩])
 .ret)
 .skip))
 (.seq (.ops [⟨some 28, none, .mov (.tmp 2)⟩,
 ⟨some 29, none, .mov (.tmp 7)⟩,
 ⟨some 30, none, .call (.func 114) [(.tmp 28), (.tmp 29)]⟩,
 ⟨some 10, none, .mov (.tmp 30)⟩])
 (.seq (.ops [⟨some 31, none, .mov (.tmp 0)⟩,
 ⟨some 32, none, .mov (.tmp 7)⟩,
 ⟨some 33, none, .lnl (.tmp 32)⟩,
 ⟨some 34, none, .agg [(.int .i64 0), (.int .i64 0), (.int .i64 0), (.string ⟨#[]⟩), (.int .i32 0), (.int .i32 0)] [(0, 1, (.const (.int .i64 11))), (2, 1, (.tmp 33)), (4, 1, (.const (.int .i32 7)))]⟩,
 ⟨some 35, none, .mov (.tmp 1)⟩,
 ⟨some 36, none, .mov (.tmp 0)⟩,
 ⟨some 37, none, .mov (.tmp 8)⟩,
 ⟨some 38, none, .mov (.tmp 9)⟩,
 ⟨some 39, none, .lits [(.int .i64 0)] 1 [(0, 1, (.tmp 38))]⟩,
 ⟨some 40, none, .app 1 8 none (.tmp 37) (.tmp 39)⟩,
 ⟨some 41, none, .mov (.tmp 10)⟩,
 ⟨some 42, none, .call (.func 116) [(.tmp 36), (.tmp 40), (.tmp 41)]⟩,
 ⟨some 43, none, .call (.func 109) [(.tmp 31), (.tmp 34), (.tmp 35), (.tmp 42)]⟩,
 ⟨some 6, none, .mov (.tmp 43)⟩])
 .ret)))))⟩
theorem ok70 : compF Tryz.prog Tryz.f70 = some c70 := by kernel_rfl
def c71 : CF := ⟨66, [.tmp 6],
 (.seq (.ops [⟨some 6, none, .mov (.const (.slice none 0 0))⟩])
 (.seq (.ops [⟨some 12, none, .mov (.tmp 0)⟩,
 ⟨some 13, none, .nilck (.tmp 12)⟩,
 ⟨some 14, none, .fad (.tmp 13) 0⟩,
 ⟨some 15, none, .ld1 (.tmp 14)⟩,
 ⟨some 16, none, .mov (.tmp 1)⟩,
 ⟨some 17, none, .call (.func 108) [(.tmp 15), (.tmp 16)]⟩,
 ⟨some 7, none, .mov (.tmp 17)⟩])
 (.seq (.ops [⟨some 18, none, .mov (.tmp 7)⟩,
 ⟨some 19, none, .mov (.tmp 7)⟩,
 ⟨some 20, none, .lnl (.tmp 19)⟩,
 ⟨some 21, none, .bin .sub (.tmp 20) (.const (.int .i64 1))⟩,
 ⟨some 22, none, .iad 1 (.tmp 18) (.tmp 21)⟩,
 ⟨some 23, none, .ld1 (.tmp 22)⟩,
 ⟨some 8, none, .mov (.tmp 23)⟩])
 (.seq (.ops [⟨some 24, none, .mov (.tmp 0)⟩,
 ⟨some 25, none, .mov (.tmp 8)⟩,
 ⟨some 26, none, .mov (.tmp 0)⟩,
 ⟨some 27, none, .mov (.tmp 8)⟩,
 ⟨some 28, none, .bin .add (.tmp 27) (.const (.int .i64 1))⟩,
 ⟨some 29, none, .mov (.tmp 2)⟩,
 ⟨some 30, none, .call (.func 36) [(.tmp 26), (.tmp 28), (.tmp 29)]⟩,
 ⟨some 31, none, .call (.func 118) [(.tmp 24), (.const (.int .i32 9)), (.tmp 25), (.tmp 30)]⟩,
 ⟨some 9, none, .mov (.tmp 31)⟩])
 (.seq (.seq (.ops [⟨some 32, none, .mov (.tmp 7)⟩,
 ⟨some 33, none, .lnl (.tmp 32)⟩,
 ⟨some 34, none, .bin .sub (.tmp 33) (.const (.int .i64 2))⟩,
 ⟨some 10, none, .mov (.tmp 34)⟩])
 (.block 0 (.loop (.seq (.seq (.ops [⟨some 35, none, .mov (.tmp 10)⟩,
 ⟨some 36, none, .bin .geq (.tmp 35) (.const (.int .i64 0))⟩])
 (.cond (.tmp 36)
 .skip
 (.exit 0)))
 (.seq (.block 1 (.seq (.draw [⟨some 39, none, .mov (.tmp 0)⟩,
 ⟨some 40, none, .mov (.tmp 0)⟩,
 ⟨some 41, none, .nilck (.tmp 40)⟩,
 ⟨some 42, none, .fad (.tmp 41) 0⟩,
 ⟨some 43, none, .ld1 (.tmp 42)⟩,
 ⟨some 44, none, .mov (.tmp 7)⟩,
 ⟨some 45, none, .mov (.tmp 10)⟩,
 ⟨some 46, none, .iad 1 (.tmp 44) (.tmp 45)⟩,
 ⟨some 47, none, .ld1 (.tmp 46)⟩,
 ⟨some 48, none, .call (.func 108) [(.tmp 43), (.tmp 47)]⟩,
 ⟨some 49, none, .mov (.tmp 2)⟩,
 ⟨some 50, none, .call (.func 116) [(.tmp 39), (.tmp 48), (.tmp 49)]⟩,
 ⟨some 11, none, .mov (.tmp 50)⟩] [(0, 1), (0, 2), (0, 3), (0, 4), (0, 5), (1, 5), (2, 5), (3, 5), (4, 5), (0, 6), (1, 6), (2, 6), (3, 6), (4, 6), (5, 6), (0, 7), (1, 7), (2, 7), (3, 7), (4, 7), (0, 8), (1, 8), (2, 8), (3, 8), (4, 8), (0, 9), (0, 10), (1, 10), (2, 10), (3, 10), (4, 10), (5, 10), (6, 10), (7, 10), (8, 10), (9, 10)])
 (.draw [⟨some 51, none, .mov (.tmp 0)⟩,
 ⟨some 52, none, .mov (.tmp 7)⟩,
 ⟨some 53, none, .mov (.tmp 10)⟩,
 ⟨some 54, none, .iad 1 (.tmp 52) (.tmp 53)⟩,
 ⟨some 55, none, .ld1 (.tmp 54)⟩,
 ⟨some 56, none, .mov (.tmp 11)⟩,
 ⟨some 57, none, .iad 1 (.tmp 56) (.const (.int .i64 0))⟩,
 ⟨some 58, none, .ld1 (.tmp 57)⟩,
 ⟨some 59, none, .mov (.tmp 11)⟩,
 ⟨some 60, none, .iad 1 (.tmp 59) (.const (.int .i64 1))⟩,
 ⟨some 61, none, .ld1 (.tmp 60)⟩,
 ⟨some 62, none, .mov (.tmp 9)⟩,
 ⟨some 63, none, .lits [(.slice none 0 0), (.slice none 0 0), (.slice none 0 0)] 3 [(0, 1, (.tmp 58)), (1, 1, (.tmp 61)), (2, 1, (.tmp 62))]⟩,
 ⟨some 64, none, .call (.func 117) [(.tmp 51), (.const (.int .i32 8)), (.tmp 55), (.tmp 63)]⟩,
 ⟨some 9, none, .mov (.tmp 64)⟩] [(0, 1), (0, 2), (1, 2), (0, 3), (0, 4), (0, 5), (1, 5), (2, 5), (3, 5), (4, 5), (0, 6), (1, 6), (2, 6), (3, 6), (4, 6), (0, 7), (1, 7), (2, 7), (3, 7), (4, 7), (0, 8), (1, 8), (2, 8), (3, 8), (4, 8), (5, 8), (6, 8), (7, 8), (0, 9), (1, 9), (2, 9), (3, 9), (4, 9), (5, 9), (6, 9), (7, 9), (0, 10), (1, 10), (2, 10), (3, 10), (4, 10), (5, 10), (6, 10), (7, 10), (0, 11), (1, 11), (2, 11), (3, 11), (4, 11), (5, 11), (6, 11), (7, 11), (8, 11), (9, 11), (10, 11), (0, 12), (1, 12), (2, 12), (3, 12), (4, 12)])))
 (.ops [⟨some 37, none, .mov (.tmp 10)⟩,
 ⟨some 38, none, .bin .sub (.tmp 37) (.const (.int .i64 1))⟩,
 ⟨some 10, none, .mov (.tmp 38)⟩]))))))
 (.seq (.ops [⟨some 65, none, .mov (.tmp 9)⟩,
 ⟨some 6, none, .mov (.tmp 65)⟩])
 .ret))))))⟩
theorem ok71 : compF Tryz.prog Tryz.f71 = some c71 := by kernel_rfl
def c72 : CF := ⟨57, [.tmp 6],
 (.seq (.ops [⟨some 6, none, .mov (.const (.slice none 0 0))⟩])
 (.seq (.ops [⟨some 10, none, .mov (.tmp 0)⟩,
 ⟨some 11, none, .mov (.tmp 0)⟩,
 ⟨some 12, none, .nilck (.tmp 11)⟩,
 ⟨some 13, none, .fad (.tmp 12) 0⟩,
 ⟨some 14, none, .ld1 (.tmp 13)⟩,
 ⟨some 15, none, .mov (.tmp 1)⟩,
 ⟨some 16, none, .call (.func 108) [(.tmp 14), (.tmp 15)]⟩,
 ⟨some 17, none, .mov (.tmp 2)⟩,
 ⟨some 18, none, .call (.func 116) [(.tmp 10), (.tmp 16), (.tmp 17)]⟩,
 ⟨some 7, none, .mov (.tmp 18)⟩])
 (.seq (.seq (.ops [⟨some 19, none, .mov (.tmp 7)⟩,
 ⟨some 20, none, .lnl (.tmp 19)⟩,
 ⟨some 21, none, .bin .eql (.tmp 20) (.const (.int .i64 0))⟩])
 (.cond (.tmp 21)
 (.seq (.ops [⟨some 22, none, .mov (.tmp 0)⟩,
 ⟨some 23, none, .mov (.tmp 1)⟩,
 ⟨some 24, none, .mov (.tmp 0)⟩,
 ⟨some 25, none, .mov (.tmp 1)⟩,
 ⟨some 26, none, .call (.func 110) [(.tmp 24), (.const (.int .i64 1)), (.tmp 25)]⟩,
 ⟨some 27, none, .call (.func 118) [(.tmp 22), (.const (.int .i32 28)), (.tmp 23), (.tmp 26)]⟩,
 ⟨some 6, none, .mov (.tmp 27)⟩])
 .ret)
 .skip))
 (.seq (.ops [⟨some 28, none, .mov (.tmp 0)⟩,
 ⟨some 29, none, .mov (.tmp 1)⟩,
 ⟨some 30, none, .mov (.tmp 7)⟩,
 ⟨some 31, none, .mov (.tmp 7)⟩,
 ⟨some 32, none, .lnl (.tmp 31)⟩,
 ⟨some 33, none, .bin .sub (.tmp 32) (.const (.int .i64 1))⟩,
 ⟨some 34, none, .iad 1 (.tmp 30) (.tmp 33)⟩,
 ⟨some 35, none, .ld1 (.tmp 34)⟩,
 ⟨some 36, none, .call (.func 118) [(.tmp 28), (.const (.int .i32 11)), (.tmp 29), (.tmp 35)]⟩,
 ⟨some 8, none, .mov (.tmp 36)⟩])
 (.seq (.seq (.ops [⟨some 37, none, .mov (.tmp 7)⟩,
 ⟨some 38, none, .lnl (.tmp 37)⟩,
 ⟨some 39, none, .bin .sub (.tmp 38) (.const (.int .i64 2))⟩,
 ⟨some 9, none, .mov (.tmp 39)⟩])
 (.block 0 (.loop (.seq (.seq (.ops [⟨some 40, none, .mov (.tmp 9)⟩,
 ⟨some 41, none, .bin .geq (.tmp 40) (.const (.int .i64 0))⟩])
 (.cond (.tmp 41)
 .skip
 (.exit 0)))
 (.seq (.block 1 (.draw [⟨some 44, none, .mov (.tmp 0)⟩,
 ⟨some 45, none, .mov (.tmp 1)⟩,
 ⟨some 46, none, .mov (.tmp 7)⟩,
 ⟨some 47, none, .mov (.tmp 9)⟩,
 ⟨some 48, none, .iad 1 (.tmp 46) (.tmp 47)⟩,
 ⟨some 49, none, .ld1 (.tmp 48)⟩,
 ⟨some 50, none, .mov (.tmp 8)⟩,
 ⟨some 51, none, .mov (.tmp 0)⟩,
 ⟨some 52, none, .mov (.tmp 1)⟩,
 ⟨some 53, none, .call (.func 110) [(.tmp 51), (.const (.int .i64 0)), (.tmp 52)]⟩,
 ⟨some 54, none, .lits [(.slice none 0 0), (.slice none 0 0), (.slice none 0 0)] 3 [(0, 1, (.tmp 49)), (1, 1, (.tmp 50)), (2, 1, (.tmp 53))]⟩,
 ⟨some 55, none, .call (.func 117) [(.tmp 44), (.const (.int .i32 13)), (.tmp 45), (.tmp 54)]⟩,
 ⟨some 8, none, .mov (.tmp 55)⟩] [(0, 1), (0, 2), (1, 2), (0, 3), (1, 3), (2, 3), (0, 4), (1, 4), (0, 5), (1, 5), (0, 6), (1, 6), (2, 6), (3, 6), (4, 6), (5, 6), (0, 7), (1, 7), (2, 7), (3, 7), (4, 7), (5, 7), (6, 7), (0, 8), (1, 8), (2, 8), (3, 8), (4, 8), (5, 8), (6, 8), (7, 8), (0, 9), (1, 9), (2, 9), (3, 9), (4, 9), (5, 9), (6, 9), (0, 10), (1, 10)]))
 (.ops [⟨some 42, none, .mov (.tmp 9)⟩,
 ⟨some 43, none, .bin .sub (.tmp 42) (.const (.int .i64 1))⟩,
 ⟨some 9, none, .mov (.tmp 43)⟩]))))))
 (.seq (.ops [⟨some 56, none, .mov (.tmp 8)⟩,
 ⟨some 6, none, .mov (.tmp 56)⟩])
 .ret))))))⟩
theorem ok72 : compF Tryz.prog Tryz.f72 = some c72 := by kernel_rfl
def c73 : CF := ⟨34, [.tmp 6],
 (.seq (.ops [⟨some 3, none, .box (.tmp 0)⟩,
 ⟨some 4, none, .box (.tmp 1)⟩,
 ⟨some 6, none, .mov (.const (.slice none 0 0))⟩])
 (.seq (.draw [⟨some 10, none, .ld1 (.tmp 3)⟩,
 ⟨some 11, none, .nilck (.tmp 10)⟩,
 ⟨some 12, none, .fad (.tmp 11) 0⟩,
 ⟨some 13, none, .ld1 (.tmp 12)⟩,
 ⟨some 14, none, .ld1 (.tmp 4)⟩,
 ⟨some 15, none, .call (.func 108) [(.tmp 13), (.tmp 14)]⟩,
 ⟨some 7, none, .mov (.tmp 15)⟩] [(0, 4), (1, 4), (2, 4), (3, 4)])
 (.seq (.seq (.ops [⟨some 16, none, .mov (.tmp 7)⟩,
 ⟨some 17, none, .lnl (.tmp 16)⟩,
 ⟨some 18, none, .bin .eql (.tmp 17) (.const (.int .i64 0))⟩])
 (.cond (.tmp 18)
 (.seq (.draw [⟨some 19, none, .ld1 (.tmp 3)⟩,
 ⟨some 20, none, .ld1 (.tmp 4)⟩,
 ⟨some 21, none, .ld1 (.tmp 3)⟩,
 ⟨some 22, none, .ld1 (.tmp 4)⟩,
 ⟨some 23, none, .call (.func 110) [(.tmp 21), (.const (.int .i64 0)), (.tmp 22)]⟩,
 ⟨some 24, none, .call (.func 118) [(.tmp 19), (.const (.int .i32 30)), (.tmp 20), (.tmp 23)]⟩,
 ⟨some 6, none, .mov (.tmp 24)⟩] [(0, 1), (0, 2), (1, 2), (0, 3), (1, 3), (2, 3), (0, 4), (1, 4)])
 .ret)
 .skip))
 (.seq (.ops [⟨some 25, none, .ld1 (.tmp 3)⟩,
 ⟨some 26, none, .agg [(.int .i64 0), (.int .i64 0), (.int .i64 0), (.string ⟨#[]⟩), (.int .i32 0), (.int .i32 0)] [(0, 1, (.const (.int .i64 7)))]⟩,
 ⟨some 27, none, .ld1 (.tmp 4)⟩,
 ⟨some 28, none, .call (.func 109) [(.tmp 25), (.tmp 26), (.tmp 27), (.const (.slice none 0 0))]⟩,
 ⟨some 8, none, .newz [(.slice none 0 0)]⟩,
 ⟨none, none, .st 1 (.tmp 8) (.tmp 28)⟩])
 (.seq (.ops [⟨some 9, none, .newz [.nilFunc]⟩])
 (.seq (.ops [⟨some 29, none, .fn 119 [] [(.tmp 3), (.tmp 4), (.tmp 8), (.tmp 9)]⟩,
 ⟨none, none, .st 1 (.tmp 9) (.tmp 29)⟩])
 (.seq (.ops [⟨some 30, none, .ld1 (.tmp 9)⟩,
 ⟨some 31, none, .mov (.tmp 7)⟩,
 ⟨some 32, none, .mov (.tmp 2)⟩,
 ⟨some 33, none, .call (.tmp 30) [(.tmp 31), (.tmp 32)]⟩,
 ⟨some 6, none, .mov (.tmp 33)⟩])
 .ret)))))))⟩
theorem ok73 : compF Tryz.prog Tryz.f73 = some c73 := by kernel_rfl
def c74 : CF := ⟨55, [.tmp 6],
 (.seq (.ops [⟨some 6, none, .mov (.const (.slice none 0 0))⟩])
 (.seq (.ops [⟨some 8, none, .mov (.tmp 0)⟩,
 ⟨some 9, none, .mov (.tmp 0)⟩,
 ⟨some 10, none, .nilck (.tmp 9)⟩,
 ⟨some 11, none, .fad (.tmp 10) 0⟩,
 ⟨some 12, none, .ld1 (.tmp 11)⟩,
 ⟨some 13, none, .mov (.tmp 1)⟩,
 ⟨some 14, none, .call (.func 108) [(.tmp 12), (.tmp 13)]⟩,
 ⟨some 15, none, .mov (.tmp 2)⟩,
 ⟨some 16, none, .call (.func 116) [(.tmp 8), (.tmp 14), (.tmp 15)]⟩,
 ⟨some 7, none, .mov (.tmp 16)⟩])
 (.seq (.seq (.ops [⟨some 17, none, .mov (.tmp 0)⟩,
 ⟨some 18, none, .nilck (.tmp 17)⟩,
 ⟨some 19, none, .fad (.tmp 18) 0⟩,
 ⟨some 20, none, .ld1 (.tmp 19)⟩,
 ⟨some 21, none, .nilck (.tmp 20)⟩,
 ⟨some 22, none, .fad (.tmp 21) 0⟩,
 ⟨some 23, none, .ld1 (.tmp 22)⟩,
 ⟨some 24, none, .mov (.tmp 1)⟩,
 ⟨some 25, none, .iad 7 (.tmp 23) (.tmp 24)⟩,
 ⟨some 26, none, .fad (.tmp 25) 0⟩,
 ⟨some 27, none, .ld1 (.tmp 26)⟩,
 ⟨some 28, none, .bin .eql (.tmp 27) (.const (.int .i64 21))⟩])
 (.cond (.tmp 28)
 (.seq (.draw [⟨some 29, none, .mov (.tmp 0)⟩,
 ⟨some 30, none, .mov (.tmp 1)⟩,
 ⟨some 31, none, .mov (.tmp 7)⟩,
 ⟨some 32, none, .iad 1 (.tmp 31) (.const (.int .i64 0))⟩,
 ⟨some 33, none, .ld1 (.tmp 32)⟩,
 ⟨some 34, none, .mov (.tmp 0)⟩,
 ⟨some 35, none, .mov (.tmp 1)⟩,
 ⟨some 36, none, .call (.func 77) [(.tmp 34), (.tmp 35)]⟩,
 ⟨some 37, none, .mov (.tmp 7)⟩,
 ⟨some 38, none, .iad 1 (.tmp 37) (.const (.int .i64 1))⟩,
 ⟨some 39, none, .ld1 (.tmp 38)⟩,
 ⟨some 40, none, .lits [(.slice none 0 0), (.slice none 0 0), (.slice none 0 0)] 3 [(0, 1, (.tmp 33)), (1, 1, (.tmp 36)), (2, 1, (.tmp 39))]⟩,
 ⟨some 41, none, .call (.func 117) [(.tmp 29), (.const (.int .i32 20)), (.tmp 30), (.tmp 40)]⟩,
 ⟨some 6, none, .mov (.tmp 41)⟩] [(0, 1), (0, 2), (1, 2), (0, 3), (1, 3), (0, 4), (1, 4), (0, 5), (1, 5), (2, 5), (3, 5), (4, 5), (0, 6), (1, 6), (2, 6), (3, 6), (4, 6), (5, 6), (0, 7), (1, 7), (2, 7), (3, 7), (4, 7), (0, 8), (1, 8), (2, 8), (3, 8), (4, 8), (5, 8), (6, 8), (7, 8), (0, 9), (1, 9), (2, 9), (3, 9), (4, 9), (5, 9), (6, 9), (7, 9), (0, 10), (1, 10), (2, 10), (3, 10), (4, 10), (5, 10), (6, 10), (7, 10), (0, 11), (1, 11)])
 .ret)
 .skip))
 (.seq (.draw [⟨some 42, none, .mov (.tmp 0)⟩,
 ⟨some 43, none, .mov (.tmp 1)⟩,
 ⟨some 44, none, .mov (.tmp 7)⟩,
 ⟨some 45, none, .iad 1 (.tmp 44) (.const (.int .i64 0))⟩,
 ⟨some 46, none, .ld1 (.tmp 45)⟩,
 ⟨some 47, none, .mov (.tmp 7)⟩,
 ⟨some 48, none, .iad 1 (.tmp 47) (.const (.int .i64 1))⟩,
 ⟨some 49, none, .ld1 (.tmp 48)⟩,
 ⟨some 50, none, .mov (.tmp 0)⟩,
 ⟨some 51, none, .mov (.tmp 1)⟩,
 ⟨some 52, none, .call (.func 77) [(.tmp 50), (.tmp 51)]⟩,
 ⟨some 53, none, .lits [(.slice none 0 0), (.slice none 0 0), (.slice none 0 0)] 3 [(0, 1, (.tmp 46)), (1, 1, (.tmp 49)), (2, 1, (.tmp 52))]⟩,
 ⟨some 54, none, .call (.func 117) [(.tmp 42), (.const (.int .i32 19)), (.tmp 43), (.tmp 53)]⟩,
 ⟨some 6, none, .mov (.tmp 54)⟩] [(0, 1), (0, 2), (1, 2), (0, 3), (1, 3), (0, 4), (1, 4), (0, 5), (1, 5), (2, 5), (3, 5), (4, 5), (0, 6), (1, 6), (2, 6), (3, 6), (4, 6), (0, 7), (1, 7), (2, 7), (3, 7), (4, 7), (0, 8), (1, 8), (2, 8), (3, 8), (4, 8), (5, 8), (6, 8), (7, 8), (0, 9), (1, 9), (2, 9), (3, 9), (4, 9), (5, 9), (6, 9), (7, 9), (8, 9), (0, 10), (1, 10), (2, 10), (3, 10), (4, 10), (5, 10), (6, 10), (7, 10), (0, 11), (1, 11)])
 .ret))))⟩
theorem ok74 : compF Tryz.prog Tryz.f74 = some c74 := by kernel_rfl
def c75 : CF := ⟨18, [.tmp 6],
 (.seq (.ops [⟨some 3, none, .box (.tmp 0)⟩,
 ⟨some 4, none, .box (.tmp 1)⟩,
 ⟨some 6, none, .mov (.const (.slice none 0 0))⟩])
 (.seq (.ops [⟨some 7, none, .newz [.nilFunc]⟩])
 (.seq (.ops [⟨some 8, none, .fn 120 [] [(.tmp 3), (.tmp 4), (.tmp 7)]⟩,
 ⟨none, none, .st 1 (.tmp 7) (.tmp 8)⟩])
 (.seq (.draw [⟨some 9, none, .ld1 (.tmp 7)⟩,
 ⟨some 10, none, .ld1 (.tmp 3)⟩,
 ⟨some 11, none, .nilck (.tmp 10)⟩,
 ⟨some 12, none, .fad (.tmp 11) 0⟩,
 ⟨some 13, none, .ld1 (.tmp 12)⟩,
 ⟨some 14, none, .ld1 (.tmp 4)⟩,
 ⟨some 15, none, .call (.func 108) [(.tmp 13), (.tmp 14)]⟩,
 ⟨some 16, none, .mov (.tmp 2)⟩,
 ⟨some 17, none, .call (.tmp 9) [(.tmp 15), (.tmp 16)]⟩,
 ⟨some 6, none, .mov (.tmp 17)⟩] [(0, 1), (0, 2), (0, 3), (0, 4), (0, 5), (1, 5), (2, 5), (3, 5), (4, 5), (0, 6), (0, 7), (1, 7), (2, 7), (3, 7), (4, 7), (5, 7), (6, 7)])
 .ret))))⟩
theorem ok75 : compF Tryz.prog Tryz.f75 = some c75 := by kernel_rfl
def c76 : CF := ⟨46, [.tmp 6],
 (.seq (.ops [⟨some 6, none, .mov (.const (.slice none 0 0))⟩])
 (.seq (.ops [⟨some 10, none, .mov (.tmp 0)⟩,
 ⟨some 11, none, .mov (.tmp 0)⟩,
 ⟨some 12, none, .nilck (.tmp 11)⟩,
 ⟨some 13, none, .fad (.tmp 12) 0⟩,
 ⟨some 14, none, .ld1 (.tmp 13)⟩,
 ⟨some 15, none, .mov (.tmp 1)⟩,
 ⟨some 16, none, .call (.func 108) [(.tmp 14), (.tmp 15)]⟩,
 ⟨some 17, none, .mov (.tmp 2)⟩,
 ⟨some 18, none, .call (.func 116) [(.tmp 10), (.tmp 16), (.tmp 17)]⟩,
 ⟨some 7, none, .mov (.tmp 18)⟩])
 (.seq (.ops [⟨some 19, none, .mov (.tmp 0)⟩,
 ⟨some 20, none, .mov (.tmp 1)⟩,
 ⟨some 21, none, .mov (.tmp 0)⟩,
 ⟨some 22, none, .mov (.tmp 1)⟩,
 ⟨some 23, none, .call (.func 77) [(.tmp 21), (.tmp 22)]⟩,
 ⟨some 24, none, .call (.func 118) [(.tmp 19), (.const (.int .i32 32)), (.tmp 20), (.tmp 23)]⟩,
 ⟨some 8, none, .mov (.tmp 24)⟩])
 (.seq (.seq (.ops [⟨some 25, none, .mov (.tmp 7)⟩,
 ⟨some 26, none, .lnl (.tmp 25)⟩,
 ⟨some 27, none, .bin .sub (.tmp 26) (.const (.int .i64 1))⟩,
 ⟨some 9, none, .mov (.tmp 27)⟩])
 (.block 0 (.loop (.seq (.seq (.ops [⟨some 28, none, .mov (.tmp 9)⟩,
 ⟨some 29, none, .bin .geq (.tmp 28) (.const (.int .i64 0))⟩])
 (.cond (.tmp 29)
 .skip
 (.exit 0)))
 (.seq (.block 1 (.draw [⟨some 32, none, .mov (.tmp 0)⟩,
 ⟨some 33, none, .mov (.tmp 1)⟩,
 ⟨some 34, none, .mov (.tmp 0)⟩,
 ⟨some 35, none, .agg [(.int .i64 0), (.int .i64 0), (.int .i64 0), (.string ⟨#[]⟩), (.int .i32 0), (.int .i32 0)] [(0, 1, (.const (.int .i64 6))), (3, 1, (.const (.string ⟨#[99, 111, 110, 115]⟩)))]⟩,
 ⟨some 36, none, .mov (.tmp 1)⟩,
 ⟨some 37, none, .call (.func 109) [(.tmp 34), (.tmp 35), (.tmp 36), (.const (.slice none 0 0))]⟩,
 ⟨some 38, none, .mov (.tmp 7)⟩,
 ⟨some 39, none, .mov (.tmp 9)⟩,
 ⟨some 40, none, .iad 1 (.tmp 38) (.tmp 39)⟩,
 ⟨some 41, none, .ld1 (.tmp 40)⟩,
 ⟨some 42, none, .mov (.tmp 8)⟩,
 ⟨some 43, none, .lits [(.slice none 0 0), (.slice none 0 0), (.slice none 0 0)] 3 [(0, 1, (.tmp 37)), (1, 1, (.tmp 41)), (2, 1, (.tmp 42))]⟩,
 ⟨some 44, none, .call (.func 115) [(.tmp 32), (.const (.int .i32 25)), (.tmp 33), (.tmp 43)]⟩,
 ⟨some 8, none, .mov (.tmp 44)⟩] [(0, 1), (0, 2), (1, 2), (0, 3), (1, 3), (2, 3), (0, 4), (1, 4), (2, 4), (3, 4), (0, 5), (1, 5), (0, 6), (1, 6), (2, 6), (3, 6), (4, 6), (5, 6), (0, 7), (1, 7), (2, 7), (3, 7), (4, 7), (5, 7), (6, 7), (0, 8), (1, 8), (2, 8), (3, 8), (4, 8), (5, 8), (0, 9), (1, 9), (2, 9), (3, 9), (4, 9), (5, 9), (0, 10), (1, 10), (2, 10), (3, 10), (4, 10), (5, 10), (6, 10), (7, 10), (8, 10), (9, 10), (0, 11), (1, 11)]))
 (.ops [⟨some 30, none, .mov (.tmp 9)⟩,
 ⟨some 31, none, .bin .sub (.tmp 30) (.const (.int .i64 1))⟩,
 ⟨some 9, none, .mov (.tmp 31)⟩]))))))
 (.seq (.ops [⟨some 45, none, .mov (.tmp 8)⟩,
 ⟨some 6, none, .mov (.tmp 45)⟩])
 .ret)))))⟩
theorem ok76 : compF Tryz.prog Tryz.f76 = some c76 := by kernel_rfl
def c77 : CF := ⟨9, [.tmp 4],
 (.seq (.ops [⟨some 4, none, .mov (.const (.slice none 0 0))⟩])
 (.seq (.ops [⟨some 5, none, .mov (.tmp 0)⟩,
 ⟨some 6, none, .agg [(.int .i64 0), (.int .i64 0), (.int .i64 0), (.string ⟨#[]⟩), (.int .i32 0), (.int .i32 0)] [(0, 1, (.const (.int .i64 4)))]⟩,
 ⟨some 7, none, .mov (.tmp 1)⟩,
 ⟨some 8, none, .call (.func 109) [(.tmp 5), (.tmp 6), (.tmp 7), (.const (.slice none 0 0))]⟩,
 ⟨some 4, none, .mov (.tmp 8)⟩])
 .ret))⟩
theorem ok77 : compF Tryz.prog Tryz.f77 = some c77 := by kernel_rfl
def c78 : CF := ⟨66, [.tmp 2],
 (.seq (.ops [⟨some 1, none, .box (.tmp 0)⟩,
 ⟨some 2, none, .mov (.const (.int .i64 0))⟩])
 (.seq (.ops [⟨some 3, none, .mov (.const (.bool false))⟩,
 ⟨some 4, none, .mov (.const (.bool false))⟩,
 ⟨some 5, none, .mov (.const (.bool false))⟩,
 ⟨some 6, none, .mov (.const (.int .i64 0))⟩,
 ⟨some 7, none, .mov (.const (.int .i64 0))⟩])
 (.seq (.seq (.ops [⟨some 8, none, .fad (.tmp 1) 0⟩,
 ⟨some 9, none, .ld1 (.tmp 8)⟩])
 (.block 0 (.seq (.seq (.ops [⟨some 11, none, .bin .eql (.tmp 9) (.const (.int .i64 1))⟩,
 ⟨some 10, none, .mov (.tmp 11)⟩])
 (.cond (.tmp 10)
 .skip
 (.seq (.ops [⟨some 12, none, .bin .eql (.tmp 9) (.const (.int .i64 2))⟩,
 ⟨some 10, none, .mov (.tmp 12)⟩])
 (.cond (.tmp 10)
 .skip
 (.seq (.ops [⟨some 13, none, .bin .eql (.tmp 9) (.const (.int .i64 7))⟩,
 ⟨some 10, none, .mov (.tmp 13)⟩])
 (.cond (.tmp 10)
 .skip
 (.ops [⟨some 14, none, .bin .eql (.tmp 9) (.const (.int .i64 12))⟩,
 ⟨some 10, none, .mov (.tmp 14)⟩])))))))
 (.cond (.tmp 10)
 (.ops [⟨some 3, none, .mov (.const (.bool true))⟩])
 (.seq (.seq (.ops [⟨some 16, none, .bin .eql (.tmp 9) (.const (.int .i64 3))⟩,
 ⟨some 15, none, .mov (.tmp 16)⟩])
 (.cond (.tmp 15)
 .skip
 (.ops [⟨some 17, none, .bin .eql (.tmp 9) (.const (.int .i64 6))⟩,
 ⟨some 15, none, .mov (.tmp 17)⟩])))
 (.cond (.tmp 15)
 (.ops [⟨some 4, none, .mov (.const (.bool true))⟩])
 (.seq (.ops [⟨some 19, none, .bin .eql (.tmp 9) (.const (.int .i64 5))⟩,
 ⟨some 18, none, .mov (.tmp 19)⟩])
 (.cond (.tmp 18)
 (.ops [⟨some 6, none, .mov (.const (.int .i64 2))⟩,
 ⟨some 7, none, .mov (.const (.int .i64 2))⟩])
 (.seq (.seq (.ops [⟨some 21, none, .bin .eql (.tmp 9) (.const (.int .i64 8))⟩,
 ⟨some 20, none, .mov (.tmp 21)⟩])
 (.cond (.tmp 20)
 .skip
 (.ops [⟨some 22, none, .bin .eql (.tmp 9) (.const (.int .i64 11))⟩,
 ⟨some 20, none, .mov (.tmp 22)⟩])))
 (.cond (.tmp 20)
 (.draw [⟨some 23, none, .fad (.tmp 1) 1⟩,
 ⟨some 24, none, .ld1 (.tmp 23)⟩,
 ⟨some 3, none, .mov (.const (.bool true))⟩,
 ⟨some 5, none, .mov (.const (.bool true))⟩,
 ⟨some 7, none, .mov (.tmp 24)⟩] [(0, 2), (1, 2), (0, 3), (1, 3)])
 (.seq (.ops [⟨some 26, none, .bin .eql (.tmp 9) (.const (.int .i64 9))⟩,
 ⟨some 25, none, .mov (.tmp 26)⟩])
 (.cond (.tmp 25)
 (.ops [⟨some 5, none, .mov (.const (.bool true))⟩,
 ⟨some 6, none, .mov (.const (.int .i64 1))⟩,
 ⟨some 7, none, .mov (.const (.int .i64 9))⟩])
 (.seq (.ops [⟨some 28, none, .bin .eql (.tmp 9) (.const (.int .i64 10))⟩,
 ⟨some 27, none, .mov (.tmp 28)⟩])
 (.cond (.tmp 27)
 (.ops [⟨some 5, none, .mov (.const (.bool true))⟩,
 ⟨some 6, none, .mov (.const (.int .i64 3))⟩,
 ⟨some 7, none, .mov (.const (.int .i64 3))⟩])
 .skip))))))))))))))
 (.seq (.seq (.ops [⟨some 29, none, .mov (.tmp 3)⟩,
 ⟨some 30, none, .un .not (.tmp 29)⟩,
 ⟨some 31, none, .mov (.tmp 30)⟩,
 ⟨some 32, (some (31, true)), .fad (.tmp 1) 2⟩,
 ⟨some 33, (some (31, true)), .ld1 (.tmp 32)⟩,
 ⟨some 34, (some (31, true)), .bin .neq (.tmp 33) (.const (.int .i64 0))⟩,
 ⟨some 35, none, .pick (.tmp 31) (.tmp 34) (.const (.bool false))⟩,
 ⟨some 36, none, .mov (.tmp 35)⟩,
 ⟨some 37, (some (36, false)), .mov (.tmp 4)⟩,
 ⟨some 38, (some (36, false)), .un .not (.tmp 37)⟩,
 ⟨some 39, (some (36, false)), .mov (.tmp 38)⟩,
 ⟨some 40, (some (39, true)), .fad (.tmp 1) 3⟩,
 ⟨some 41, (some (39, true)), .ld1 (.tmp 40)⟩,
 ⟨some 42, (some (39, true)), .bin .neq (.tmp 41) (.const (.string ⟨#[]⟩))⟩,
 ⟨some 43, (some (36, false)), .pick (.tmp 39) (.tmp 42) (.const (.bool false))⟩,
 ⟨some 44, none, .pick (.tmp 36) (.const (.bool true)) (.tmp 43)⟩,
 ⟨some 45, none, .mov (.tmp 44)⟩,
 ⟨some 46, (some (45, false)), .mov (.tmp 5)⟩,
 ⟨some 47, (some (45, false)), .un .not (.tmp 46)⟩,
 ⟨some 48, (some (45, false)), .mov (.tmp 47)⟩,
 ⟨some 49, (some (48, true)), .fad (.tmp 1) 4⟩,
 ⟨some 50, (some (48, true)), .ld1 (.tmp 49)⟩,
 ⟨some 51, (some (48, true)), .bin .neq (.tmp 50) (.const (.int .i32 0))⟩,
 ⟨some 52, (some (45, false)), .pick (.tmp 48) (.tmp 51) (.const (.bool false))⟩,
 ⟨some 53, none, .pick (.tmp 45) (.const (.bool true)) (.tmp 52)⟩,
 ⟨some 54, none, .mov (.tmp 53)⟩,
 ⟨some 55, (some (54, false)), .fad (.tmp 1) 1⟩,
 ⟨some 56, (some (54, false)), .ld1 (.tmp 55)⟩,
 ⟨some 57, (some (54, false)), .mov (.tmp 6)⟩,
 ⟨some 58, (some (54, false)), .bin .lss (.tmp 56) (.tmp 57)⟩,
 ⟨some 59, none, .pick (.tmp 54) (.const (.bool true)) (.tmp 58)⟩,
 ⟨some 60, none, .mov (.tmp 59)⟩,
 ⟨some 61, (some (60, false)), .fad (.tmp 1) 1⟩,
 ⟨some 62, (some (60, false)), .ld1 (.tmp 61)⟩,
 ⟨some 63, (some (60, false)), .mov (.tmp 7)⟩,
 ⟨some 64, (some (60, false)), .bin .gtr (.tmp 62) (.tmp 63)⟩,
 ⟨some 65, none, .pick (.tmp 60) (.const (.bool true)) (.tmp 64)⟩])
 (.cond (.tmp 65)
 (.seq (.ops [⟨some 2, none, .mov (.const (.int .i64 6))⟩])
 .ret)
 .skip))
 (.seq (.ops [⟨some 2, none, .mov (.const (.int .i64 0))⟩])
 .ret)))))⟩
theorem ok78 : compF Tryz.prog Tryz.f78 = some c78 := by kernel_rfl
def c79 : CF := ⟨76, [.tmp 4],
 (.seq (.ops [⟨some 2, none, .box (.tmp 0)⟩,
 ⟨some 4, none, .mov (.const (.int .i64 0))⟩])
 (.seq (.ops [⟨some 5, none, .mov (.const (.int .i64 0))⟩,
 ⟨some 6, none, .mov (.const (.int .i64 0))⟩])
 (.seq (.seq (.ops [⟨some 9, none, .fad (.tmp 2) 0⟩,
 ⟨some 10, none, .ld1 (.tmp 9)⟩])
 (.block 0 (.seq (.block 5 (.seq (.block 4 (.seq (.block 3 (.seq (.block 2 (.seq (.block 1 (.seq (.seq (.seq (.ops [⟨some 12, none, .bin .eql (.tmp 10) (.const (.int .i64 1))⟩,
 ⟨some 11, none, .mov (.tmp 12)⟩])
 (.cond (.tmp 11)
 (.exit 1)
 .skip))
 (.seq (.seq (.ops [⟨some 14, none, .bin .eql (.tmp 10) (.const (.int .i64 2))⟩,
 ⟨some 13, none, .mov (.tmp 14)⟩])
 (.cond (.tmp 13)
 (.exit 2)
 .skip))
 (.seq (.seq (.seq (.ops [⟨some 16, none, .bin .eql (.tmp 10) (.const (.int .i64 7))⟩,
 ⟨some 15, none, .mov (.tmp 16)⟩])
 (.cond (.tmp 15)
 .skip
 (.ops [⟨some 17, none, .bin .eql (.tmp 10) (.const (.int .i64 12))⟩,
 ⟨some 15, none, .mov (.tmp 17)⟩])))
 (.cond (.tmp 15)
 (.exit 3)
 .skip))
 (.seq (.seq (.ops [⟨some 19, none, .bin .eql (.tmp 10) (.const (.int .i64 11))⟩,
 ⟨some 18, none, .mov (.tmp 19)⟩])
 (.cond (.tmp 18)
 (.exit 4)
 .skip))
 (.seq (.ops [⟨some 21, none, .bin .eql (.tmp 10) (.const (.int .i64 8))⟩,
 ⟨some 20, none, .mov (.tmp 21)⟩])
 (.cond (.tmp 20)
 (.exit 5)
 .skip))))))
 (.exit 0)))
 (.seq (.draw [⟨some 22, none, .fad (.tmp 2) 2⟩,
 ⟨some 23, none, .ld1 (.tmp 22)⟩,
 ⟨some 24, none, .fad (.tmp 2) 2⟩,
 ⟨some 25, none, .ld1 (.tmp 24)⟩,
 ⟨some 5, none, .mov (.tmp 23)⟩,
 ⟨some 6, none, .mov (.tmp 25)⟩] [(0, 2), (1, 2), (0, 3), (1, 3), (2, 4), (3, 4)])
 (.exit 0))))
 (.seq (.ops [⟨some 6, none, .mov (.const (.int .i64 1))⟩])
 (.exit 0))))
 (.seq (.ops [⟨some 6, none, .mov (.const (.int .i64 1000000))⟩])
 (.exit 0))))
 (.ops [⟨some 5, none, .mov (.const (.int .i64 1))⟩])))
 (.seq (.ops [⟨some 6, none, .mov (.const (.int .i64 8))⟩])
 (.exit 0)))))
 (.seq (.seq (.ops [⟨some 26, none, .fad (.tmp 2) 2⟩,
 ⟨some 27, none, .ld1 (.tmp 26)⟩,
 ⟨some 28, none, .mov (.tmp 5)⟩,
 ⟨some 29, none, .bin .lss (.tmp 27) (.tmp 28)⟩,
 ⟨some 30, none, .mov (.tmp 29)⟩,
 ⟨some 31, (some (30, false)), .fad (.tmp 2) 2⟩,
 ⟨some 32, (some (30, false)), .ld1 (.tmp 31)⟩,
 ⟨some 33, (some (30, false)), .mov (.tmp 6)⟩,
 ⟨some 34, (some (30, false)), .bin .gtr (.tmp 32) (.tmp 33)⟩,
 ⟨some 35, none, .pick (.tmp 30) (.const (.bool true)) (.tmp 34)⟩,
 ⟨some 36, none, .mov (.tmp 35)⟩,
 ⟨some 37, (some (36, false)), .fad (.tmp 2) 4⟩,
 ⟨some 38, (some (36, false)), .ld1 (.tmp 37)⟩,
 ⟨some 39, (some (36, false)), .bin .lss (.tmp 38) (.const (.int .i32 0))⟩,
 ⟨some 40, none, .pick (.tmp 36) (.const (.bool true)) (.tmp 39)⟩,
 ⟨some 41, none, .mov (.tmp 40)⟩,
 ⟨some 42, (some (41, false)), .fad (.tmp 2) 4⟩,
 ⟨some 43, (some (41, false)), .ld1 (.tmp 42)⟩,
 ⟨some 44, (some (41, false)), .bin .gtr (.tmp 43) (.const (.int .i32 99))⟩,
 ⟨some 45, none, .pick (.tmp 41) (.const (.bool true)) (.tmp 44)⟩,
 ⟨some 46, none, .mov (.tmp 45)⟩,
 ⟨some 47, (some (46, false)), .fad (.tmp 2) 5⟩,
 ⟨some 48, (some (46, false)), .ld1 (.tmp 47)⟩,
 ⟨some 49, (some (46, false)), .bin .lss (.tmp 48) (.const (.int .i32 0))⟩,
 ⟨some 50, none, .pick (.tmp 46) (.const (.bool true)) (.tmp 49)⟩])
 (.cond (.tmp 50)
 (.seq (.ops [⟨some 4, none, .mov (.const (.int .i64 7))⟩])
 .ret)
 .skip))
 (.seq (.ops [⟨some 52, none, .ld 6 (.tmp 2)⟩,
 ⟨some 53, none, .mov (.tmp 1)⟩,
 ⟨some 54, none, .call (.func 121) [(.tmp 52), (.tmp 53)]⟩,
 ⟨some 51, none, .mov (.tmp 54)⟩,
 ⟨some 55, none, .ext (.tmp 51) 0⟩,
 ⟨some 56, none, .ext (.tmp 51) 1⟩,
 ⟨some 7, none, .mov (.tmp 55)⟩,
 ⟨some 8, none, .mov (.tmp 56)⟩])
 (.seq (.seq (.ops [⟨some 57, none, .fad (.tmp 2) 0⟩,
 ⟨some 58, none, .ld1 (.tmp 57)⟩])
 (.block 6 (.seq (.seq (.ops [⟨some 60, none, .bin .eql (.tmp 58) (.const (.int .i64 3))⟩,
 ⟨some 59, none, .mov (.tmp 60)⟩])
 (.cond (.tmp 59)
 .skip
 (.ops [⟨some 61, none, .bin .eql (.tmp 58) (.const (.int .i64 6))⟩,
 ⟨some 59, none, .mov (.tmp 61)⟩])))
 (.cond (.tmp 59)
 (.seq (.ops [⟨some 62, none, .fad (.tmp 2) 3⟩,
 ⟨some 63, none, .ld1 (.tmp 62)⟩,
 ⟨some 64, none, .call (.func 122) [(.tmp 63)]⟩,
 ⟨some 65, none, .un .not (.tmp 64)⟩])
 (.cond (.tmp 65)
 (.seq (.ops [⟨some 4, none, .mov (.const (.int .i64 6))⟩])
 .ret)
 .skip))
 (.seq (.seq (.ops [⟨some 67, none, .bin .eql (.tmp 58) (.const (.int .i64 8))⟩,
 ⟨some 66, none, .mov (.tmp 67)⟩])
 (.cond (.tmp 66)
 .skip
 (.ops [⟨some 68, none, .bin .eql (.tmp 58) (.const (.int .i64 11))⟩,
 ⟨some 66, none, .mov (.tmp 68)⟩])))
 (.cond (.tmp 66)
 (.seq (.ops [⟨some 69, none, .fad (.tmp 2) 1⟩,
 ⟨some 70, none, .ld1 (.tmp 69)⟩,
 ⟨some 71, none, .mov (.tmp 7)⟩,
 ⟨some 72, none, .mov (.tmp 8)⟩,
 ⟨some 73, none, .bin .add (.tmp 71) (.tmp 72)⟩,
 ⟨some 74, none, .bin .add (.tmp 73) (.const (.int .i64 1))⟩,
 ⟨some 75, none, .bin .neq (.tmp 70) (.tmp 74)⟩])
 (.cond (.tmp 75)
 (.seq (.ops [⟨some 4, none, .mov (.const (.int .i64 6))⟩])
 .ret)
 .skip))
 .skip))))))
 (.seq (.ops [⟨some 4, none, .mov (.const (.int .i64 0))⟩])
 .ret)))))))⟩
theorem ok79 : compF Tryz.prog Tryz.f79 = some c79 := by kernel_rfl
def c80 : CF := ⟨25, [.tmp 2],
 (.seq (.ops [⟨some 2, none, .mov (.const (.int .i64 0))⟩])
 (.seq (.seq (.ops [⟨some 5, none, .mov (.tmp 0)⟩,
 ⟨some 6, none, .lnl (.tmp 5)⟩,
 ⟨some 7, none, .bin .lss (.tmp 6) (.const (.int .i64 1))⟩])
 (.cond (.tmp 7)
 (.ops [⟨some 8, none, .ifc 9 (.const (.string ⟨#[115, 108, 105, 99, 101, 115, 46, 77, 97, 120, 58, 32, 101, 109, 112, 116, 121, 32, 108, 105, 115, 116]⟩))⟩,
 ⟨none, none, .bad⟩])
 .skip))
 (.seq (.ops [⟨some 9, none, .mov (.tmp 0)⟩,
 ⟨some 10, none, .iad 1 (.tmp 9) (.const (.int .i64 0))⟩,
 ⟨some 11, none, .ld1 (.tmp 10)⟩,
 ⟨some 3, none, .mov (.tmp 11)⟩])
 (.seq (.seq (.ops [⟨some 4, none, .mov (.const (.int .i64 1))⟩])
 (.block 0 (.loop (.seq (.seq (.ops [⟨some 12, none, .mov (.tmp 4)⟩,
 ⟨some 13, none, .mov (.tmp 0)⟩,
 ⟨some 14, none, .lnl (.tmp 13)⟩,
 ⟨some 15, none, .bin .lss (.tmp 12) (.tmp 14)⟩])
 (.cond (.tmp 15)
 .skip
 (.exit 0)))
 (.seq (.block 1 (.ops [⟨some 18, none, .mov (.tmp 3)⟩,
 ⟨some 19, none, .mov (.tmp 0)⟩,
 ⟨some 20, none, .mov (.tmp 4)⟩,
 ⟨some 21, none, .iad 1 (.tmp 19) (.tmp 20)⟩,
 ⟨some 22, none, .ld1 (.tmp 21)⟩,
 ⟨some 23, none, .mnx true [(.tmp 18), (.tmp 22)]⟩,
 ⟨some 3, none, .mov (.tmp 23)⟩]))
 (.ops [⟨some 16, none, .mov (.tmp 4)⟩,
 ⟨some 17, none, .bin .add (.tmp 16) (.const (.int .i64 1))⟩,
 ⟨some 4, none, .mov (.tmp 17)⟩]))))))
 (.seq (.ops [⟨some 24, none, .mov (.tmp 3)⟩,
 ⟨some 2, none, .mov (.tmp 24)⟩])
 .ret)))))⟩
theorem ok80 : compF Tryz.prog Tryz.f80 = some c80 := by kernel_rfl
def c81 : CF := ⟨12, [.tmp 2],
 (.seq (.ops [⟨some 1, none, .box (.tmp 0)⟩,
 ⟨some 2, none, .mov (.const (.slice none 0 0))⟩])
 (.seq (.ops [⟨some 5, none, .ld1 (.tmp 1)⟩,
 ⟨some 6, none, .lnl (.tmp 5)⟩,
 ⟨some 7, none, .mks 8 [(.int .i64 0)] (.tmp 6) (.tmp 6)⟩,
 ⟨some 3, none, .newz [(.slice none 0 0)]⟩,
 ⟨none, none, .st 1 (.tmp 3) (.tmp 7)⟩])
 (.seq (.ops [⟨some 4, none, .newz [.nilFunc]⟩])
 (.seq (.ops [⟨some 8, none, .fn 123 [] [(.tmp 1), (.tmp 4), (.tmp 3)]⟩,
 ⟨none, none, .st 1 (.tmp 4) (.tmp 8)⟩])
 (.seq (.ops [⟨some 9, none, .ld1 (.tmp 4)⟩,
 ⟨some 10, none, .call (.tmp 9) [(.const (.int .i64 0))]⟩])
 (.seq (.ops [⟨some 11, none, .ld1 (.tmp 3)⟩,
 ⟨some 2, none, .mov (.tmp 11)⟩])
 .ret))))))⟩
theorem ok81 : compF Tryz.prog Tryz.f81 = some c81 := by kernel_rfl
def c82 : CF := ⟨99, [.tmp 8],
 (.seq (.ops [⟨some 8, none, .mov (.const (.int .i64 0))⟩])
 (.seq (.ops [⟨some 17, none, .mov (.tmp 0)⟩,
 ⟨some 18, none, .mov (.tmp 2)⟩,
 ⟨some 19, none, .iad 6 (.tmp 17) (.tmp 18)⟩,
 ⟨some 20, none, .ld 6 (.tmp 19)⟩,
 ⟨some 21, none, .mov (.tmp 3)⟩,
 ⟨some 22, none, .call (.func 121) [(.tmp 20), (.tmp 21)]⟩,
 ⟨some 16, none, .mov (.tmp 22)⟩,
 ⟨some 23, none, .ext (.tmp 16) 0⟩,
 ⟨some 24, none, .ext (.tmp 16) 1⟩,
 ⟨some 9, none, .mov (.tmp 23)⟩,
 ⟨some 10, none, .mov (.tmp 24)⟩])
 (.seq (.seq (.ops [⟨some 25, none, .mov (.tmp 0)⟩,
 ⟨some 26, none, .mov (.tmp 2)⟩,
 ⟨some 27, none, .iad 6 (.tmp 25) (.tmp 26)⟩,
 ⟨some 28, none, .fad (.tmp 27) 1⟩,
 ⟨some 29, none, .ld1 (.tmp 28)⟩,
 ⟨some 30, none, .bin .eql (.tmp 29) (.const (.int .i64 0))⟩])
 (.cond (.tmp 30)
 (.seq (.ops [⟨some 8, none, .mov (.const (.int .i64 0))⟩])
 .ret)
 .skip))
 (.seq (.ops [⟨some 11, none, .mov (.const (.map none))⟩])
 (.seq (.seq (.ops [⟨some 31, none, .mov (.tmp 9)⟩,
 ⟨some 32, none, .bin .gtr (.tmp 31) (.const (.int .i64 0))⟩])
 (.cond (.tmp 32)
 (.ops [⟨some 33, none, .mkm⟩,
 ⟨some 11, none, .mov (.tmp 33)⟩])
 .skip))
 (.seq (.ops [⟨some 12, none, .mov (.const (.bool false))⟩])
 (.seq (.seq (.ops [⟨some 34, none, .mov (.tmp 0)⟩,
 ⟨some 35, none, .mov (.tmp 1)⟩,
 ⟨some 36, none, .mov (.tmp 2)⟩,
 ⟨some 37, none, .call (.func 124) [(.tmp 34), (.tmp 35), (.tmp 36)]⟩,
 ⟨some 38, none, .lnl (.tmp 37)⟩,
 ⟨some 39, none, .mov (.const (.int .i64 0))⟩])
 (.block 0 (.loop (.seq (.ops [⟨some 40, none, .bin .lss (.tmp 39) (.tmp 38)⟩])
 (.seq (.cond (.tmp 40)
 .skip
 (.exit 0))
 (.seq (.block 1 (.seq (.ops [⟨some 41, none, .mov (.tmp 39)⟩,
 ⟨some 42, none, .iad 1 (.tmp 37) (.tmp 39)⟩,
 ⟨some 43, none, .ld1 (.tmp 42)⟩,
 ⟨some 13, none, .mov (.tmp 41)⟩,
 ⟨some 14, none, .mov (.tmp 43)⟩])
 (.seq (.ops [⟨some 44, none, .mov (.tmp 0)⟩,
 ⟨some 45, none, .mov (.tmp 14)⟩,
 ⟨some 46, none, .iad 6 (.tmp 44) (.tmp 45)⟩,
 ⟨some 47, none, .ld 6 (.tmp 46)⟩,
 ⟨some 15, none, .newz [(.int .i64 0), (.int .i64 0), (.int .i64 0), (.string ⟨#[]⟩), (.int .i32 0), (.int .i32 0)]⟩,
 ⟨none, none, .st 6 (.tmp 15) (.tmp 47)⟩])
 (.block 2 (.seq (.seq (.ops [⟨some 49, none, .fad (.tmp 15) 0⟩,
 ⟨some 50, none, .ld1 (.tmp 49)⟩,
 ⟨some 51, none, .bin .eql (.tmp 50) (.const (.int .i64 12))⟩,
 ⟨some 52, none, .mov (.tmp 13)⟩,
 ⟨some 53, none, .mov (.tmp 9)⟩,
 ⟨some 54, none, .bin .lss (.tmp 52) (.tmp 53)⟩,
 ⟨some 55, none, .eqb true (.tmp 51) (.tmp 54)⟩,
 ⟨some 48, none, .mov (.tmp 55)⟩])
 (.cond (.tmp 48)
 .skip
 (.seq (.ops [⟨some 56, none, .mov (.tmp 13)⟩,
 ⟨some 57, none, .mov (.tmp 9)⟩,
 ⟨some 58, none, .bin .geq (.tmp 56) (.tmp 57)⟩,
 ⟨some 59, none, .mov (.tmp 58)⟩,
 ⟨some 60, (some (59, true)), .mov (.tmp 13)⟩,
 ⟨some 61, (some (59, true)), .mov (.tmp 9)⟩,
 ⟨some 62, (some (59, true)), .mov (.tmp 10)⟩,
 ⟨some 63, (some (59, true)), .bin .add (.tmp 61) (.tmp 62)⟩,
 ⟨some 64, (some (59, true)), .bin .lss (.tmp 60) (.tmp 63)⟩,
 ⟨some 65, none, .pick (.tmp 59) (.tmp 64) (.const (.bool false))⟩,
 ⟨some 66, none, .mov (.tmp 65)⟩,
 ⟨some 67, (some (66, true)), .fad (.tmp 15) 0⟩,
 ⟨some 68, (some (66, true)), .ld1 (.tmp 67)⟩,
 ⟨some 69, (some (66, true)), .bin .neq (.tmp 68) (.const (.int .i64 8))⟩,
 ⟨some 70, none, .pick (.tmp 66) (.tmp 69) (.const (.bool false))⟩,
 ⟨some 48, none, .mov (.tmp 70)⟩])
 (.cond (.tmp 48)
 .skip
 (.ops [⟨some 71, none, .mov (.tmp 0)⟩,
 ⟨some 72, none, .mov (.tmp 2)⟩,
 ⟨some 73, none, .iad 6 (.tmp 71) (.tmp 72)⟩,
 ⟨some 74, none, .fad (.tmp 73) 0⟩,
 ⟨some 75, none, .ld1 (.tmp 74)⟩,
 ⟨some 76, none, .bin .eql (.tmp 75) (.const (.int .i64 5))⟩,
 ⟨some 77, none, .mov (.tmp 76)⟩,
 ⟨some 78, (some (77, true)), .fad (.tmp 15) 0⟩,
 ⟨some 79, (some (77, true)), .ld1 (.tmp 78)⟩,
 ⟨some 80, (some (77, true)), .call (.func 125) [(.tmp 79)]⟩,
 ⟨some 81, (some (77, true)), .un .not (.tmp 80)⟩,
 ⟨some 82, none, .pick (.tmp 77) (.tmp 81) (.const (.bool false))⟩,
 ⟨some 48, none, .mov (.tmp 82)⟩])))))
 (.cond (.tmp 48)
 (.seq (.ops [⟨some 8, none, .mov (.const (.int .i64 6))⟩])
 .ret)
 (.seq (.ops [⟨some 84, none, .mov (.tmp 13)⟩,
 ⟨some 85, none, .mov (.tmp 9)⟩,
 ⟨some 86, none, .bin .lss (.tmp 84) (.tmp 85)⟩,
 ⟨some 83, none, .mov (.tmp 86)⟩])
 (.cond (.tmp 83)
 (.seq (.ops [⟨some 87, none, .mov (.tmp 12)⟩,
 ⟨some 88, none, .mov (.tmp 87)⟩,
 ⟨some 89, (some (88, false)), .mov (.tmp 11)⟩,
 ⟨some 90, (some (88, false)), .fad (.tmp 15) 2⟩,
 ⟨some 91, (some (88, false)), .ld1 (.tmp 90)⟩,
 ⟨some 92, (some (88, false)), .lkp (.int .i64) (.bool false) (.tmp 89) (.tmp 91) false⟩,
 ⟨some 93, none, .pick (.tmp 88) (.const (.bool true)) (.tmp 92)⟩,
 ⟨some 12, none, .mov (.tmp 93)⟩])
 (.ops [⟨some 94, none, .mov (.tmp 11)⟩,
 ⟨some 95, none, .fad (.tmp 15) 2⟩,
 ⟨some 96, none, .ld1 (.tmp 95)⟩,
 ⟨none, none, .mup (.int .i64) (.tmp 94) (.tmp 96) (.const (.bool true))⟩]))
 .skip))))))))
 (.ops [⟨some 97, none, .bin .add (.tmp 39) (.const (.int .i64 1))⟩,
 ⟨some 39, none, .mov (.tmp 97)⟩])))))))
 (.seq (.seq (.ops [⟨some 98, none, .mov (.tmp 12)⟩])
 (.cond (.tmp 98)
 (.seq (.ops [⟨some 8, none, .mov (.const (.int .i64 8))⟩])
 .ret)
 .skip))
 (.seq (.ops [⟨some 8, none, .mov (.const (.int .i64 0))⟩])
 .ret)))))))))⟩
theorem ok82 : compF Tryz.prog Tryz.f82 = some c82 := by kernel_rfl
def c83 : CF := ⟨42, [],
 (.block 0 (.loop (.seq (.seq (.ops [⟨some 9, none, .mov (.tmp 0)⟩,
 ⟨some 10, none, .ld1 (.tmp 1)⟩,
 ⟨some 11, none, .call (.tmp 9) [(.tmp 10)]⟩])
 (.cond (.tmp 11)
 .skip
 (.exit 0)))
 (.seq (.block 1 (.seq (.ops [⟨some 15, none, .ld1 (.tmp 1)⟩,
 ⟨some 16, none, .call (.func 26) [(.tmp 15)]⟩,
 ⟨some 14, none, .mov (.tmp 16)⟩,
 ⟨some 17, none, .ext (.tmp 14) 0⟩,
 ⟨some 18, none, .ext (.tmp 14) 1⟩,
 ⟨some 19, none, .ext (.tmp 14) 2⟩,
 ⟨some 20, none, .ext (.tmp 14) 3⟩,
 ⟨some 5, none, .mov (.tmp 17)⟩,
 ⟨some 6, none, .mov (.tmp 18)⟩,
 ⟨some 7, none, .mov (.tmp 19)⟩,
 ⟨some 8, none, .mov (.tmp 20)⟩])
 (.seq (.block 2 (.seq (.ops [⟨some 22, none, .mov (.tmp 8)⟩,
 ⟨some 23, none, .bin .eql (.tmp 22) (.const (.int .i64 9))⟩,
 ⟨some 21, none, .mov (.tmp 23)⟩])
 (.cond (.tmp 21)
 (.seq (.ops [⟨some 24, none, .ld1 (.tmp 3)⟩,
 ⟨some 25, none, .agg [(.int .i64 0), (.int .i64 0), (.int .i64 0)] [(0, 1, (.const (.int .i64 1)))]⟩,
 ⟨some 26, none, .nilck (.tmp 24)⟩,
 ⟨none, none, .st 3 (.tmp 26) (.tmp 25)⟩])
 .ret)
 (.seq (.ops [⟨some 28, none, .mov (.tmp 8)⟩,
 ⟨some 29, none, .bin .neq (.tmp 28) (.const (.int .i64 0))⟩,
 ⟨some 27, none, .mov (.tmp 29)⟩])
 (.cond (.tmp 27)
 (.seq (.ops [⟨some 30, none, .ld1 (.tmp 3)⟩,
 ⟨some 31, none, .mov (.tmp 6)⟩,
 ⟨some 32, none, .mov (.tmp 8)⟩,
 ⟨some 33, none, .agg [(.int .i64 0), (.int .i64 0), (.int .i64 0)] [(0, 1, (.const (.int .i64 3))), (1, 1, (.tmp 31)), (2, 1, (.tmp 32))]⟩,
 ⟨some 34, none, .nilck (.tmp 30)⟩,
 ⟨none, none, .st 3 (.tmp 34) (.tmp 33)⟩])
 .ret)
 (.seq (.ops [⟨some 36, none, .ld1 (.tmp 2)⟩,
 ⟨some 37, none, .bin .eql (.tmp 36) (.const (.int .i64 0))⟩,
 ⟨some 35, none, .mov (.tmp 37)⟩])
 (.cond (.tmp 35)
 (.seq (.ops [⟨some 38, none, .ld1 (.tmp 3)⟩,
 ⟨some 39, none, .agg [(.int .i64 0), (.int .i64 0), (.int .i64 0)] [(0, 1, (.const (.int .i64 2)))]⟩,
 ⟨some 40, none, .nilck (.tmp 38)⟩,
 ⟨none, none, .st 3 (.tmp 40) (.tmp 39)⟩])
 .ret)
 .skip)))))))
 (.ops [⟨some 41, none, .mov (.tmp 5)⟩,
 ⟨none, none, .st 1 (.tmp 1) (.tmp 41)⟩]))))
 (.ops [⟨some 12, none, .ld1 (.tmp 2)⟩,
 ⟨some 13, none, .bin .sub (.tmp 12) (.const (.int .i64 1))⟩,
 ⟨none, none, .st 1 (.tmp 2) (.tmp 13)⟩])))))⟩
theorem ok83 : compF Tryz.prog Tryz.f83 = some c83 := by kernel_rfl
def c84 : CF := ⟨31, [.tmp 4, .tmp 5],
 (.seq (.ops [⟨some 2, none, .box (.tmp 0)⟩,
 ⟨some 3, none, .box (.tmp 1)⟩,
 ⟨some 4, none, .mov (.const (.slice none 0 0))⟩,
 ⟨some 5, none, .mov (.const (.int .i64 0))⟩])
 (.seq (.seq (.ops [⟨some 11, none, .ld1 (.tmp 2)⟩,
 ⟨some 12, none, .ld1 (.tmp 3)⟩,
 ⟨some 13, none, .call (.func 37) [(.tmp 11), (.tmp 12)]⟩,
 ⟨some 10, none, .mov (.tmp 13)⟩,
 ⟨some 14, none, .ext (.tmp 10) 0⟩,
 ⟨some 15, none, .ext (.tmp 10) 1⟩,
 ⟨some 6, none, .mov (.tmp 14)⟩,
 ⟨some 7, none, .mov (.tmp 15)⟩])
 (.seq (.ops [⟨some 16, none, .mov (.tmp 7)⟩,
 ⟨some 17, none, .bin .neq (.tmp 16) (.const (.int .i64 0))⟩])
 (.cond (.tmp 17)
 (.seq (.ops [⟨some 18, none, .mov (.tmp 7)⟩,
 ⟨some 4, none, .mov (.const (.slice none 0 0))⟩,
 ⟨some 5, none, .mov (.tmp 18)⟩])
 .ret)
 .skip)))
 (.seq (.ops [⟨some 8, none, .newz [(.slice none 0 0)]⟩])
 (.seq (.ops [⟨some 19, none, .mkm⟩,
 ⟨some 20, none, .agg [(.int .i64 0), (.map none)] [(1, 1, (.tmp 19))]⟩,
 ⟨some 21, none, .box (.tmp 20)⟩,
 ⟨some 9, none, .newz [(.pointer none)]⟩,
 ⟨none, none, .st 1 (.tmp 9) (.tmp 21)⟩])
 (.seq (.ops [⟨some 22, none, .ld1 (.tmp 2)⟩,
 ⟨some 23, none, .ld1 (.tmp 3)⟩,
 ⟨some 24, none, .ld1 (.tmp 9)⟩,
 ⟨some 25, none, .fn 127 [] [(.tmp 3), (.tmp 8), (.tmp 2), (.tmp 9)]⟩,
 ⟨some 26, none, .call (.func 126) [(.tmp 22), (.tmp 23), (.tmp 24), (.tmp 25)]⟩])
 (.seq (.ops [⟨some 27, none, .ld1 (.tmp 8)⟩,
 ⟨some 28, none, .call (.func 128) [(.tmp 27)]⟩])
 (.seq (.ops [⟨some 29, none, .ld1 (.tmp 8)⟩,
 ⟨some 30, none, .call (.func 129) [(.tmp 29)]⟩,
 ⟨some 4, none, .mov (.tmp 30)⟩,
 ⟨some 5, none, .mov (.const (.int .i64 0))⟩])
 .ret)))))))⟩
theorem ok84 : compF Tryz.prog Tryz.f84 = some c84 := by kernel_rfl
def c86 : CF := ⟨130, [],
 (.seq (.ops [⟨some 12, none, .mov (.tmp 0)⟩,
 ⟨some 13, none, .nilck (.tmp 12)⟩,
 ⟨some 14, none, .fad (.tmp 13) 0⟩,
 ⟨some 15, none, .ld1 (.tmp 14)⟩,
 ⟨some 16, none, .mov (.tmp 1)⟩,
 ⟨some 17, none, .iad 6 (.tmp 15) (.tmp 16)⟩,
 ⟨some 18, none, .ld 6 (.tmp 17)⟩,
 ⟨some 6, none, .newz [(.int .i64 0), (.int .i64 0), (.int .i64 0), (.string ⟨#[]⟩), (.int .i32 0), (.int .i32 0)]⟩,
 ⟨none, none, .st 6 (.tmp 6) (.tmp 18)⟩])
 (.seq (.seq (.ops [⟨some 19, none, .fad (.tmp 6) 4⟩,
 ⟨some 20, none, .ld1 (.tmp 19)⟩,
 ⟨some 21, none, .bin .neq (.tmp 20) (.const (.int .i32 0))⟩])
 (.cond (.tmp 21)
 (.seq (.ops [⟨some 22, none, .call (.func 130) []⟩,
 ⟨some 7, none, .newz [.nilFunc, .nilFunc, .nilFunc, .nilFunc, .nilFunc, .nilFunc, .nilFunc, .nilFunc, .nilFunc, .nilFunc, .nilFunc, .nilFunc, .nilFunc, .nilFunc, .nilFunc, .nilFunc, .nilFunc, .nilFunc, .nilFunc, .nilFunc, .nilFunc, .nilFunc, .nilFunc, .nilFunc, .nilFunc, .nilFunc, .nilFunc, .nilFunc, .nilFunc, .nilFunc, .nilFunc, .nilFunc, .nilFunc, .nilFunc]⟩,
 ⟨none, none, .st 34 (.tmp 7) (.tmp 22)⟩])
 (.seq (.ops [⟨some 23, none, .fad (.tmp 6) 4⟩,
 ⟨some 24, none, .ld1 (.tmp 23)⟩,
 ⟨some 25, none, .cvi .i64 (.tmp 24)⟩,
 ⟨some 26, none, .bin .lss (.tmp 25) (.const (.int .i64 34))⟩,
 ⟨some 27, none, .mov (.tmp 26)⟩,
 ⟨some 28, (some (27, true)), .fad (.tmp 6) 4⟩,
 ⟨some 29, (some (27, true)), .ld1 (.tmp 28)⟩,
 ⟨some 30, (some (27, true)), .iaa 34 1 (.tmp 7) (.tmp 29)⟩,
 ⟨some 31, (some (27, true)), .ld1 (.tmp 30)⟩,
 ⟨some 32, (some (27, true)), .eqn 3 true true (.tmp 31) (.const .nilFunc)⟩,
 ⟨some 33, none, .pick (.tmp 27) (.tmp 32) (.const (.bool false))⟩,
 ⟨some 34, none, .call (.func 131) [(.tmp 33)]⟩])
 (.seq (.ops [⟨some 35, none, .fad (.tmp 6) 4⟩,
 ⟨some 36, none, .ld1 (.tmp 35)⟩,
 ⟨some 37, none, .iaa 34 1 (.tmp 7) (.tmp 36)⟩,
 ⟨some 38, none, .ld1 (.tmp 37)⟩,
 ⟨some 39, none, .mov (.tmp 0)⟩,
 ⟨some 40, none, .mov (.tmp 1)⟩,
 ⟨some 41, none, .mov (.tmp 2)⟩,
 ⟨some 42, none, .call (.tmp 38) [(.tmp 39), (.tmp 40), (.tmp 41)]⟩])
 .ret)))
 .skip))
 (.seq (.ops [⟨some 43, none, .mov (.tmp 0)⟩,
 ⟨some 44, none, .mov (.tmp 1)⟩,
 ⟨some 45, none, .call (.func 132) [(.tmp 43), (.tmp 44)]⟩,
 ⟨some 8, none, .mov (.tmp 45)⟩])
 (.seq (.seq (.ops [⟨some 46, none, .fad (.tmp 6) 0⟩,
 ⟨some 47, none, .ld1 (.tmp 46)⟩])
 (.block 0 (.seq (.seq (.ops [⟨some 50, none, .bin .eql (.tmp 47) (.const (.int .i64 1))⟩,
 ⟨some 49, none, .mov (.tmp 50)⟩])
 (.cond (.tmp 49)
 .skip
 (.ops [⟨some 51, none, .bin .eql (.tmp 47) (.const (.int .i64 2))⟩,
 ⟨some 49, none, .mov (.tmp 51)⟩])))
 (.cond (.tmp 49)
 (.seq (.ops [⟨some 52, none, .mov (.tmp 0)⟩,
 ⟨some 53, none, .mov (.tmp 1)⟩,
 ⟨some 54, none, .call (.func 133) [(.tmp 52), (.tmp 53)]⟩])
 .ret)
 (.seq (.seq (.ops [⟨some 56, none, .bin .eql (.tmp 47) (.const (.int .i64 3))⟩,
 ⟨some 55, none, .mov (.tmp 56)⟩])
 (.cond (.tmp 55)
 .skip
 (.seq (.ops [⟨some 57, none, .bin .eql (.tmp 47) (.const (.int .i64 4))⟩,
 ⟨some 55, none, .mov (.tmp 57)⟩])
 (.cond (.tmp 55)
 .skip
 (.ops [⟨some 58, none, .bin .eql (.tmp 47) (.const (.int .i64 5))⟩,
 ⟨some 55, none, .mov (.tmp 58)⟩])))))
 (.cond (.tmp 55)
 (.seq (.ops [⟨some 59, none, .mov (.tmp 0)⟩,
 ⟨some 60, none, .mov (.tmp 1)⟩,
 ⟨some 61, none, .mov (.tmp 2)⟩,
 ⟨some 62, none, .call (.func 134) [(.tmp 59), (.tmp 60), (.tmp 61)]⟩])
 .ret)
 (.seq (.ops [⟨some 64, none, .bin .eql (.tmp 47) (.const (.int .i64 6))⟩,
 ⟨some 63, none, .mov (.tmp 64)⟩])
 (.cond (.tmp 63)
 (.seq (.ops [⟨some 65, none, .mov (.tmp 0)⟩,
 ⟨some 66, none, .fad (.tmp 6) 3⟩,
 ⟨some 67, none, .ld1 (.tmp 66)⟩,
 ⟨some 68, none, .agg [(.int .i64 0), (.int .i64 0), (.int .i64 0), (.string ⟨#[]⟩), (.int .i64 0), (.int .i64 0), (.int .i64 0)] [(0, 1, (.const (.int .i64 7))), (3, 1, (.tmp 67))]⟩,
 ⟨some 69, none, .mov (.tmp 1)⟩,
 ⟨some 70, none, .call (.func 135) [(.tmp 65), (.tmp 68), (.tmp 69)]⟩])
 .ret)
 (.seq (.ops [⟨some 72, none, .bin .eql (.tmp 47) (.const (.int .i64 7))⟩,
 ⟨some 71, none, .mov (.tmp 72)⟩])
 (.cond (.tmp 71)
 (.seq (.ops [⟨some 73, none, .mov (.tmp 2)⟩,
 ⟨some 74, none, .lnl (.tmp 73)⟩,
 ⟨some 75, none, .bin .sub (.tmp 74) (.const (.int .i64 1))⟩,
 ⟨some 76, none, .fad (.tmp 6) 2⟩,
 ⟨some 77, none, .ld1 (.tmp 76)⟩,
 ⟨some 78, none, .bin .sub (.tmp 75) (.tmp 77)⟩,
 ⟨some 9, none, .mov (.tmp 78)⟩])
 (.seq (.ops [⟨some 79, none, .mov (.tmp 9)⟩,
 ⟨some 80, none, .bin .geq (.tmp 79) (.const (.int .i64 0))⟩,
 ⟨some 81, none, .mov (.tmp 80)⟩,
 ⟨some 82, (some (81, true)), .mov (.tmp 2)⟩,
 ⟨some 83, (some (81, true)), .mov (.tmp 9)⟩,
 ⟨some 84, (some (81, true)), .iad 1 (.tmp 82) (.tmp 83)⟩,
 ⟨some 85, (some (81, true)), .ld1 (.tmp 84)⟩,
 ⟨some 86, (some (81, true)), .bin .geq (.tmp 85) (.const (.int .i64 0))⟩,
 ⟨some 87, none, .pick (.tmp 81) (.tmp 86) (.const (.bool false))⟩,
 ⟨some 88, none, .call (.func 131) [(.tmp 87)]⟩])
 (.seq (.ops [⟨some 89, none, .mov (.tmp 0)⟩,
 ⟨some 90, none, .mov (.tmp 2)⟩,
 ⟨some 91, none, .mov (.tmp 9)⟩,
 ⟨some 92, none, .iad 1 (.tmp 90) (.tmp 91)⟩,
 ⟨some 93, none, .ld1 (.tmp 92)⟩,
 ⟨some 94, none, .agg [(.int .i64 0), (.int .i64 0), (.int .i64 0), (.string ⟨#[]⟩), (.int .i64 0), (.int .i64 0), (.int .i64 0)] [(0, 1, (.const (.int .i64 6))), (2, 1, (.tmp 93)), (3, 1, (.const (.string ⟨#[118]⟩)))]⟩,
 ⟨some 95, none, .mov (.tmp 1)⟩,
 ⟨some 96, none, .call (.func 135) [(.tmp 89), (.tmp 94), (.tmp 95)]⟩])
 .ret)))
 (.seq (.ops [⟨some 98, none, .bin .eql (.tmp 47) (.const (.int .i64 8))⟩,
 ⟨some 97, none, .mov (.tmp 98)⟩])
 (.cond (.tmp 97)
 (.seq (.ops [⟨some 99, none, .mov (.tmp 0)⟩,
 ⟨some 100, none, .mov (.tmp 1)⟩,
 ⟨some 101, none, .mov (.tmp 2)⟩,
 ⟨some 102, none, .call (.func 136) [(.tmp 99), (.tmp 100), (.tmp 101)]⟩])
 .ret)
 (.seq (.ops [⟨some 104, none, .bin .eql (.tmp 47) (.const (.int .i64 9))⟩,
 ⟨some 103, none, .mov (.tmp 104)⟩])
 (.cond (.tmp 103)
 (.ops [⟨some 105, none, .mov (.tmp 0)⟩,
 ⟨some 106, none, .mov (.tmp 8)⟩,
 ⟨some 107, none, .lnl (.tmp 106)⟩,
 ⟨some 108, none, .agg [(.int .i64 0), (.int .i64 0), (.int .i64 0), (.string ⟨#[]⟩), (.int .i64 0), (.int .i64 0), (.int .i64 0)] [(0, 1, (.const (.int .i64 10))), (1, 1, (.tmp 107))]⟩,
 ⟨some 109, none, .mov (.tmp 1)⟩,
 ⟨some 110, none, .call (.func 135) [(.tmp 105), (.tmp 108), (.tmp 109)]⟩])
 (.seq (.ops [⟨some 112, none, .bin .eql (.tmp 47) (.const (.int .i64 10))⟩,
 ⟨some 111, none, .mov (.tmp 112)⟩])
 (.cond (.tmp 111)
 (.ops [⟨some 113, none, .mov (.tmp 0)⟩,
 ⟨some 114, none, .mov (.tmp 8)⟩,
 ⟨some 115, none, .lnl (.tmp 114)⟩,
 ⟨some 116, none, .agg [(.int .i64 0), (.int .i64 0), (.int .i64 0), (.string ⟨#[]⟩), (.int .i64 0), (.int .i64 0), (.int .i64 0)] [(0, 1, (.const (.int .i64 11))), (1, 1, (.tmp 115))]⟩,
 ⟨some 117, none, .mov (.tmp 1)⟩,
 ⟨some 118, none, .call (.func 135) [(.tmp 113), (.tmp 116), (.tmp 117)]⟩])
 (.ops [⟨some 48, none, .call (.func 131) [(.const (.bool false))]⟩])))))))))))))))))
 (.seq (.ops [⟨some 119, none, .mov (.tmp 8)⟩,
 ⟨some 120, none, .lnl (.tmp 119)⟩,
 ⟨some 121, none, .mov (.const (.int .i64 0))⟩])
 (.block 1 (.loop (.seq (.ops [⟨some 122, none, .bin .lss (.tmp 121) (.tmp 120)⟩])
 (.seq (.cond (.tmp 122)
 .skip
 (.exit 1))
 (.seq (.block 2 (.seq (.ops [⟨some 123, none, .iad 1 (.tmp 119) (.tmp 121)⟩,
 ⟨some 124, none, .ld1 (.tmp 123)⟩,
 ⟨some 11, none, .mov (.tmp 124)⟩])
 (.ops [⟨some 125, none, .mov (.tmp 0)⟩,
 ⟨some 126, none, .mov (.tmp 11)⟩,
 ⟨some 127, none, .mov (.tmp 2)⟩,
 ⟨some 128, none, .call (.func 86) [(.tmp 125), (.tmp 126), (.tmp 127)]⟩])))
 (.ops [⟨some 129, none, .bin .add (.tmp 121) (.const (.int .i64 1))⟩,
 ⟨some 121, none, .mov (.tmp 129)⟩])))))))))))⟩
theorem ok86 : compF Tryz.prog Tryz.f86 = some c86 := by kernel_rfl
def c87 : CF := ⟨13, [.tmp 2],
 (.seq (.ops [⟨some 2, none, .mov (.const (.bool false))⟩])
 (.seq (.ops [⟨some 3, none, .mov (.tmp 0)⟩,
 ⟨some 4, none, .bin .geq (.tmp 3) (.const (.int .i64 1))⟩,
 ⟨some 5, none, .mov (.tmp 4)⟩,
 ⟨some 6, (some (5, true)), .mov (.tmp 0)⟩,
 ⟨some 7, (some (5, true)), .bin .leq (.tmp 6) (.const (.int .i64 6))⟩,
 ⟨some 8, none, .pick (.tmp 5) (.tmp 7) (.const (.bool false))⟩,
 ⟨some 9, none, .mov (.tmp 8)⟩,
 ⟨some 10, (some (9, false)), .mov (.tmp 0)⟩,
 ⟨some 11, (some (9, false)), .bin .eql (.tmp 10) (.const (.int .i64 8))⟩,
 ⟨some 12, none, .pick (.tmp 9) (.const (.bool true)) (.tmp 11)⟩,
 ⟨some 2, none, .mov (.tmp 12)⟩])
 .ret))⟩
theorem ok87 : compF Tryz.prog Tryz.f87 = some c87 := by kernel_rfl
def c88 : CF := ⟨41, [.tmp 2],
 (.seq (.ops [⟨some 2, none, .mov (.const (.int .i64 0))⟩])
 (.scope (.seq (.ops [⟨some 3, none, .mov (.const (.int .i64 0))⟩])
 (.seq (.label 0)
 (.block 0 (.loop (.block 1 (.seq (.ops [⟨some 9, none, .mov (.tmp 0)⟩,
 ⟨some 10, none, .mov (.tmp 3)⟩,
 ⟨some 11, none, .call (.func 89) [(.tmp 9), (.tmp 10)]⟩,
 ⟨some 8, none, .mov (.tmp 11)⟩,
 ⟨some 12, none, .ext (.tmp 8) 0⟩,
 ⟨some 13, none, .ext (.tmp 8) 1⟩,
 ⟨some 4, none, .mov (.tmp 12)⟩,
 ⟨some 5, none, .mov (.tmp 13)⟩])
 (.seq (.seq (.ops [⟨some 14, none, .mov (.tmp 0)⟩,
 ⟨some 15, none, .mov (.tmp 3)⟩,
 ⟨some 16, none, .iad 6 (.tmp 14) (.tmp 15)⟩,
 ⟨some 17, none, .fad (.tmp 16) 0⟩,
 ⟨some 18, none, .ld1 (.tmp 17)⟩])
 (.block 2 (.seq (.block 4 (.seq (.block 3 (.seq (.seq (.seq (.ops [⟨some 20, none, .bin .eql (.tmp 18) (.const (.int .i64 10))⟩,
 ⟨some 19, none, .mov (.tmp 20)⟩])
 (.cond (.tmp 19)
 (.exit 3)
 .skip))
 (.seq (.ops [⟨some 22, none, .bin .eql (.tmp 18) (.const (.int .i64 9))⟩,
 ⟨some 21, none, .mov (.tmp 22)⟩])
 (.cond (.tmp 21)
 (.exit 4)
 .skip)))
 (.exit 2)))
 (.ops [⟨some 23, none, .mov (.tmp 5)⟩,
 ⟨some 24, none, .sl 1 (.tmp 23) none (some (.const (.int .i64 1))) none⟩,
 ⟨some 5, none, .mov (.tmp 24)⟩])))
 (.seq (.seq (.ops [⟨some 25, none, .mov (.tmp 5)⟩,
 ⟨some 26, none, .lnl (.tmp 25)⟩,
 ⟨some 27, none, .mov (.const (.int .i64 0))⟩])
 (.block 5 (.loop (.seq (.ops [⟨some 28, none, .bin .lss (.tmp 27) (.tmp 26)⟩])
 (.seq (.cond (.tmp 28)
 .skip
 (.exit 5))
 (.seq (.block 6 (.seq (.ops [⟨some 29, none, .iad 1 (.tmp 25) (.tmp 27)⟩,
 ⟨some 30, none, .ld1 (.tmp 29)⟩,
 ⟨some 7, none, .mov (.tmp 30)⟩])
 (.seq (.ops [⟨some 31, none, .mov (.tmp 0)⟩,
 ⟨some 32, none, .mov (.tmp 7)⟩,
 ⟨some 33, none, .iad 6 (.tmp 31) (.tmp 32)⟩,
 ⟨some 34, none, .fad (.tmp 33) 0⟩,
 ⟨some 35, none, .ld1 (.tmp 34)⟩,
 ⟨some 36, none, .call (.func 87) [(.tmp 35)]⟩,
 ⟨some 37, none, .un .not (.tmp 36)⟩])
 (.cond (.tmp 37)
 (.seq (.ops [⟨some 38, none, .mov (.tmp 7)⟩,
 ⟨some 3, none, .mov (.tmp 38)⟩])
 (.exit 1))
 .skip))))
 (.ops [⟨some 39, none, .bin .add (.tmp 27) (.const (.int .i64 1))⟩,
 ⟨some 27, none, .mov (.tmp 39)⟩])))))))
 (.exit 2)))))
 (.seq (.ops [⟨some 40, none, .mov (.tmp 3)⟩,
 ⟨some 2, none, .mov (.tmp 40)⟩])
 .ret))))))))))⟩
theorem ok88 : compF Tryz.prog Tryz.f88 = some c88 := by kernel_rfl
def c89 : CF := ⟨35, [.tmp 4, .tmp 5],
 (.seq (.ops [⟨some 4, none, .mov (.const (.slice none 0 0))⟩,
 ⟨some 5, none, .mov (.const (.slice none 0 0))⟩])
 (.seq (.ops [⟨some 8, none, .mov (.tmp 1)⟩,
 ⟨some 9, none, .bin .add (.tmp 8) (.const (.int .i64 1))⟩,
 ⟨some 6, none, .mov (.tmp 9)⟩])
 (.seq (.seq (.ops [⟨some 10, none, .mov (.tmp 0)⟩,
 ⟨some 11, none, .mov (.tmp 1)⟩,
 ⟨some 12, none, .iad 6 (.tmp 10) (.tmp 11)⟩,
 ⟨some 13, none, .fad (.tmp 12) 1⟩,
 ⟨some 14, none, .ld1 (.tmp 13)⟩,
 ⟨some 15, none, .mov (.const (.int .i64 0))⟩])
 (.block 0 (.loop (.seq (.ops [⟨some 16, none, .bin .lss (.tmp 15) (.tmp 14)⟩])
 (.seq (.cond (.tmp 16)
 .skip
 (.exit 0))
 (.seq (.block 1 (.seq (.ops [⟨some 17, none, .mov (.tmp 0)⟩,
 ⟨some 18, none, .mov (.tmp 6)⟩,
 ⟨some 19, none, .call (.func 46) [(.tmp 17), (.tmp 18)]⟩,
 ⟨some 7, none, .mov (.tmp 19)⟩])
 (.seq (.ops [⟨some 20, none, .mov (.tmp 4)⟩,
 ⟨some 21, none, .mov (.tmp 0)⟩,
 ⟨some 22, none, .mov (.tmp 6)⟩,
 ⟨some 23, none, .mov (.tmp 7)⟩,
 ⟨some 24, none, .sl 6 (.tmp 21) (some (.tmp 22)) (some (.tmp 23)) none⟩,
 ⟨some 25, none, .lits [(.slice none 0 0)] 1 [(0, 1, (.tmp 24))]⟩,
 ⟨some 26, none, .app 1 24 none (.tmp 20) (.tmp 25)⟩,
 ⟨some 27, none, .mov (.tmp 5)⟩,
 ⟨some 28, none, .mov (.tmp 6)⟩,
 ⟨some 29, none, .lits [(.int .i64 0)] 1 [(0, 1, (.tmp 28))]⟩,
 ⟨some 30, none, .app 1 8 none (.tmp 27) (.tmp 29)⟩,
 ⟨some 4, none, .mov (.tmp 26)⟩,
 ⟨some 5, none, .mov (.tmp 30)⟩])
 (.ops [⟨some 31, none, .mov (.tmp 7)⟩,
 ⟨some 6, none, .mov (.tmp 31)⟩]))))
 (.ops [⟨some 32, none, .bin .add (.tmp 15) (.const (.int .i64 1))⟩,
 ⟨some 15, none, .mov (.tmp 32)⟩])))))))
 (.seq (.ops [⟨some 33, none, .mov (.tmp 4)⟩,
 ⟨some 34, none, .mov (.tmp 5)⟩,
 ⟨some 4, none, .mov (.tmp 33)⟩,
 ⟨some 5, none, .mov (.tmp 34)⟩])
 .ret))))⟩
theorem ok89 : compF Tryz.prog Tryz.f89 = some c89 := by kernel_rfl
def c90 : CF := ⟨123, [.tmp 2, .tmp 3],
 (.seq (.ops [⟨some 2, none, .mov (.const (.slice none 0 0))⟩,
 ⟨some 3, none, .mov (.const (.int .i64 0))⟩])
 (.seq (.seq (.ops [⟨some 19, none, .mov (.tmp 0)⟩,
 ⟨some 20, none, .call (.func 37) [(.tmp 19), (.const (.bool false))]⟩,
 ⟨some 18, none, .mov (.tmp 20)⟩,
 ⟨some 21, none, .ext (.tmp 18) 0⟩,
 ⟨some 22, none, .ext (.tmp 18) 1⟩,
 ⟨some 4, none, .mov (.tmp 21)⟩,
 ⟨some 5, none, .mov (.tmp 22)⟩])
 (.seq (.ops [⟨some 23, none, .mov (.tmp 5)⟩,
 ⟨some 24, none, .bin .neq (.tmp 23) (.const (.int .i64 0))⟩])
 (.cond (.tmp 24)
 (.seq (.ops [⟨some 25, none, .mov (.tmp 5)⟩,
 ⟨some 2, none, .mov (.const (.slice none 0 0))⟩,
 ⟨some 3, none, .mov (.tmp 25)⟩])
 .ret)
 .skip)))
 (.seq (.seq (.ops [⟨some 26, none, .mov (.tmp 0)⟩,
 ⟨some 27, none, .iad 6 (.tmp 26) (.const (.int .i64 0))⟩,
 ⟨some 28, none, .fad (.tmp 27) 0⟩,
 ⟨some 29, none, .ld1 (.tmp 28)⟩,
 ⟨some 30, none, .bin .neq (.tmp 29) (.const (.int .i64 11))⟩])
 (.cond (.tmp 30)
 (.seq (.ops [⟨some 2, none, .mov (.const (.slice none 0 0))⟩,
 ⟨some 3, none, .mov (.const (.int .i64 6))⟩])
 .ret)
 .skip))
 (.seq (.ops [⟨some 31, none, .mov (.tmp 0)⟩,
 ⟨some 32, none, .iad 6 (.tmp 31) (.const (.int .i64 0))⟩,
 ⟨some 33, none, .fad (.tmp 32) 2⟩,
 ⟨some 34, none, .ld1 (.tmp 33)⟩,
 ⟨some 6, none, .mov (.tmp 34)⟩])
 (.seq (.ops [⟨some 35, none, .mov (.tmp 6)⟩,
 ⟨some 36, none, .mks 24 [(.slice none 0 0)] (.tmp 35) (.tmp 35)⟩,
 ⟨some 7, none, .mov (.tmp 36)⟩])
 (.seq (.ops [⟨some 37, none, .mov (.tmp 0)⟩,
 ⟨some 38, none, .sl 6 (.tmp 37) (some (.const (.int .i64 1))) none none⟩,
 ⟨some 8, none, .mov (.tmp 38)⟩])
 (.seq (.ops [⟨some 9, none, .mov (.func 137)⟩])
 (.seq (.seq (.ops [⟨some 39, none, .mov (.tmp 7)⟩,
 ⟨some 40, none, .lnl (.tmp 39)⟩,
 ⟨some 41, none, .mov (.const (.int .i64 0))⟩])
 (.block 0 (.loop (.seq (.ops [⟨some 42, none, .bin .lss (.tmp 41) (.tmp 40)⟩])
 (.seq (.cond (.tmp 42)
 .skip
 (.exit 0))
 (.seq (.block 1 (.seq (.ops [⟨some 43, none, .mov (.tmp 41)⟩,
 ⟨some 10, none, .mov (.tmp 43)⟩])
 (.seq (.ops [⟨some 44, none, .mov (.tmp 7)⟩,
 ⟨some 45, none, .mov (.tmp 10)⟩,
 ⟨some 46, none, .mov (.tmp 8)⟩,
 ⟨some 47, none, .iad 1 (.tmp 44) (.tmp 45)⟩,
 ⟨none, none, .st 1 (.tmp 47) (.tmp 46)⟩])
 (.ops [⟨some 48, none, .mov (.tmp 9)⟩,
 ⟨some 49, none, .mov (.tmp 8)⟩,
 ⟨some 50, none, .call (.tmp 48) [(.const (.pointer none)), (.tmp 49)]⟩,
 ⟨some 8, none, .mov (.tmp 50)⟩]))))
 (.ops [⟨some 51, none, .bin .add (.tmp 41) (.const (.int .i64 1))⟩,
 ⟨some 41, none, .mov (.tmp 51)⟩])))))))
 (.seq (.ops [⟨some 52, none, .mov (.tmp 6)⟩,
 ⟨some 53, none, .mks 24 [(.slice none 0 0)] (.tmp 52) (.tmp 52)⟩,
 ⟨some 11, none, .mov (.tmp 53)⟩])
 (.seq (.seq (.ops [⟨some 54, none, .mov (.tmp 7)⟩,
 ⟨some 55, none, .lnl (.tmp 54)⟩,
 ⟨some 56, none, .mov (.const (.int .i64 0))⟩])
 (.block 2 (.loop (.seq (.ops [⟨some 57, none, .bin .lss (.tmp 56) (.tmp 55)⟩])
 (.seq (.cond (.tmp 57)
 .skip
 (.exit 2))
 (.seq (.block 3 (.seq (.ops [⟨some 58, none, .mov (.tmp 56)⟩,
 ⟨some 59, none, .iad 1 (.tmp 54) (.tmp 56)⟩,
 ⟨some 60, none, .ld1 (.tmp 59)⟩,
 ⟨some 12, none, .mov (.tmp 58)⟩,
 ⟨some 13, none, .mov (.tmp 60)⟩])
 (.seq (.ops [⟨some 61, none, .agg [(.slice none 0 0), (.slice none 0 0), (.int .i64 0)] []⟩,
 ⟨some 62, none, .box (.tmp 61)⟩,
 ⟨some 14, none, .mov (.tmp 62)⟩])
 (.seq (.ops [⟨some 63, none, .mov (.tmp 14)⟩,
 ⟨some 64, none, .mov (.tmp 13)⟩,
 ⟨some 65, none, .iad 6 (.tmp 64) (.const (.int .i64 0))⟩,
 ⟨some 66, none, .ld 6 (.tmp 65)⟩,
 ⟨some 67, none, .call (.func 138) [(.tmp 63), (.tmp 66)]⟩])
 (.seq (.ops [⟨some 68, none, .mov (.tmp 14)⟩,
 ⟨some 69, none, .mov (.tmp 0)⟩,
 ⟨some 70, none, .iad 6 (.tmp 69) (.const (.int .i64 0))⟩,
 ⟨some 71, none, .ld 6 (.tmp 70)⟩,
 ⟨some 72, none, .call (.func 138) [(.tmp 68), (.tmp 71)]⟩])
 (.seq (.seq (.ops [⟨some 73, none, .mov (.tmp 7)⟩,
 ⟨some 74, none, .lnl (.tmp 73)⟩,
 ⟨some 75, none, .mov (.const (.int .i64 0))⟩])
 (.block 4 (.loop (.seq (.ops [⟨some 76, none, .bin .lss (.tmp 75) (.tmp 74)⟩])
 (.seq (.cond (.tmp 76)
 .skip
 (.exit 4))
 (.seq (.block 5 (.seq (.ops [⟨some 77, none, .iad 1 (.tmp 73) (.tmp 75)⟩,
 ⟨some 78, none, .ld1 (.tmp 77)⟩,
 ⟨some 16, none, .mov (.tmp 78)⟩])
 (.ops [⟨some 79, none, .mov (.tmp 14)⟩,
 ⟨some 80, none, .mov (.tmp 16)⟩,
 ⟨some 81, none, .mov (.tmp 13)⟩,
 ⟨some 82, none, .iad 6 (.tmp 81) (.const (.int .i64 0))⟩,
 ⟨some 83, none, .fad (.tmp 82) 2⟩,
 ⟨some 84, none, .ld1 (.tmp 83)⟩,
 ⟨some 85, none, .mov (.tmp 6)⟩,
 ⟨some 86, none, .call (.func 139) [(.tmp 79), (.tmp 80), (.tmp 84), (.tmp 85)]⟩])))
 (.ops [⟨some 87, none, .bin .add (.tmp 75) (.const (.int .i64 1))⟩,
 ⟨some 75, none, .mov (.tmp 87)⟩])))))))
 (.seq (.draw [⟨some 88, none, .mov (.tmp 14)⟩,
 ⟨some 89, none, .mov (.tmp 13)⟩,
 ⟨some 90, none, .sl 6 (.tmp 89) (some (.const (.int .i64 1))) none none⟩,
 ⟨some 91, none, .mov (.tmp 13)⟩,
 ⟨some 92, none, .iad 6 (.tmp 91) (.const (.int .i64 0))⟩,
 ⟨some 93, none, .fad (.tmp 92) 2⟩,
 ⟨some 94, none, .ld1 (.tmp 93)⟩,
 ⟨some 95, none, .mov (.tmp 6)⟩,
 ⟨some 96, none, .call (.func 140) [(.tmp 88), (.tmp 90), (.tmp 94), (.tmp 95)]⟩] [(0, 1), (0, 2), (0, 3), (1, 3), (2, 3), (0, 4), (1, 4), (2, 4), (0, 5), (1, 5), (2, 5), (0, 6), (1, 6), (2, 6), (0, 7), (1, 7), (2, 7), (3, 7), (4, 7), (5, 7), (6, 7)])
 (.seq (.ops [⟨some 97, none, .mov (.tmp 11)⟩,
 ⟨some 98, none, .mov (.tmp 12)⟩,
 ⟨some 99, none, .mov (.tmp 14)⟩,
 ⟨some 100, none, .nilck (.tmp 99)⟩,
 ⟨some 101, none, .fad (.tmp 100) 0⟩,
 ⟨some 102, none, .ld1 (.tmp 101)⟩,
 ⟨some 103, none, .iad 1 (.tmp 97) (.tmp 98)⟩,
 ⟨none, none, .st 1 (.tmp 103) (.tmp 102)⟩])
 (.seq (.ops [⟨some 104, none, .mov (.tmp 14)⟩,
 ⟨some 105, none, .nilck (.tmp 104)⟩,
 ⟨some 106, none, .fad (.tmp 105) 2⟩,
 ⟨some 107, none, .ld1 (.tmp 106)⟩,
 ⟨some 108, none, .bin .neq (.tmp 107) (.const (.int .i64 0))⟩])
 (.cond (.tmp 108)
 (.ops [⟨some 109, none, .mov (.tmp 11)⟩,
 ⟨some 110, none, .mov (.tmp 12)⟩,
 ⟨some 111, none, .iad 1 (.tmp 109) (.tmp 110)⟩,
 ⟨none, none, .st 1 (.tmp 111) (.const (.slice none 0 0))⟩])
 .skip))))))))))
 (.ops [⟨some 112, none, .bin .add (.tmp 56) (.const (.int .i64 1))⟩,
 ⟨some 56, none, .mov (.tmp 112)⟩])))))))
 (.seq (.ops [⟨some 113, none, .agg [(.slice none 0 0), (.slice none 0 0), (.int .i64 0)] []⟩,
 ⟨some 114, none, .box (.tmp 113)⟩,
 ⟨some 17, none, .mov (.tmp 114)⟩])
 (.seq (.ops [⟨some 115, none, .mov (.tmp 17)⟩,
 ⟨some 116, none, .mov (.tmp 8)⟩,
 ⟨some 117, none, .mov (.tmp 11)⟩,
 ⟨some 118, none, .call (.func 141) [(.tmp 115), (.tmp 116), (.tmp 117)]⟩])
 (.seq (.ops [⟨some 119, none, .mov (.tmp 17)⟩,
 ⟨some 120, none, .call (.func 142) [(.tmp 119)]⟩,
 ⟨some 121, none, .ext (.tmp 120) 0⟩,
 ⟨some 122, none, .ext (.tmp 120) 1⟩,
 ⟨some 2, none, .mov (.tmp 121)⟩,
 ⟨some 3, none, .mov (.tmp 122)⟩])
 .ret)))))))))))))⟩
theorem ok90 : compF Tryz.prog Tryz.f90 = some c90 := by kernel_rfl
def c91 : CF := ⟨55, [.tmp 4, .tmp 5],
 (.seq (.ops [⟨some 4, none, .mov (.const (.slice none 0 0))⟩,
 ⟨some 5, none, .mov (.const (.int .i64 0))⟩])
 (.seq (.seq (.ops [⟨some 11, none, .mov (.tmp 0)⟩,
 ⟨some 12, none, .lits [(.slice none 0 0)] 1 [(0, 1, (.tmp 11))]⟩,
 ⟨some 13, none, .mov (.tmp 1)⟩,
 ⟨some 14, none, .lits [(.slice none 0 0), (.slice none 0 0)] 2 [(0, 1, (.tmp 12)), (1, 1, (.tmp 13))]⟩,
 ⟨some 15, none, .call (.func 143) [(.tmp 14)]⟩,
 ⟨some 16, none, .lnl (.tmp 15)⟩,
 ⟨some 17, none, .mov (.const (.int .i64 0))⟩])
 (.block 0 (.loop (.seq (.ops [⟨some 18, none, .bin .lss (.tmp 17) (.tmp 16)⟩])
 (.seq (.cond (.tmp 18)
 .skip
 (.exit 0))
 (.seq (.block 1 (.seq (.ops [⟨some 19, none, .iad 1 (.tmp 15) (.tmp 17)⟩,
 ⟨some 20, none, .ld1 (.tmp 19)⟩,
 ⟨some 7, none, .mov (.tmp 20)⟩])
 (.seq (.ops [⟨some 22, none, .mov (.tmp 7)⟩,
 ⟨some 23, none, .call (.func 37) [(.tmp 22), (.const (.bool false))]⟩,
 ⟨some 21, none, .mov (.tmp 23)⟩,
 ⟨some 24, none, .ext (.tmp 21) 0⟩,
 ⟨some 25, none, .ext (.tmp 21) 1⟩,
 ⟨some 8, none, .mov (.tmp 24)⟩,
 ⟨some 9, none, .mov (.tmp 25)⟩])
 (.seq (.ops [⟨some 26, none, .mov (.tmp 9)⟩,
 ⟨some 27, none, .bin .neq (.tmp 26) (.const (.int .i64 0))⟩])
 (.cond (.tmp 27)
 (.seq (.ops [⟨some 28, none, .mov (.tmp 9)⟩,
 ⟨some 4, none, .mov (.const (.slice none 0 0))⟩,
 ⟨some 5, none, .mov (.tmp 28)⟩])
 .ret)
 .skip)))))
 (.ops [⟨some 29, none, .bin .add (.tmp 17) (.const (.int .i64 1))⟩,
 ⟨some 17, none, .mov (.tmp 29)⟩])))))))
 (.seq (.block 2 (.seq (.ops [⟨some 31, none, .mov (.tmp 0)⟩,
 ⟨some 32, none, .iad 6 (.tmp 31) (.const (.int .i64 0))⟩,
 ⟨some 33, none, .fad (.tmp 32) 0⟩,
 ⟨some 34, none, .ld1 (.tmp 33)⟩,
 ⟨some 35, none, .bin .neq (.tmp 34) (.const (.int .i64 8))⟩,
 ⟨some 30, none, .mov (.tmp 35)⟩])
 (.cond (.tmp 30)
 (.seq (.ops [⟨some 4, none, .mov (.const (.slice none 0 0))⟩,
 ⟨some 5, none, .mov (.const (.int .i64 6))⟩])
 .ret)
 (.seq (.ops [⟨some 37, none, .mov (.tmp 0)⟩,
 ⟨some 38, none, .iad 6 (.tmp 37) (.const (.int .i64 0))⟩,
 ⟨some 39, none, .fad (.tmp 38) 2⟩,
 ⟨some 40, none, .ld1 (.tmp 39)⟩,
 ⟨some 41, none, .mov (.tmp 1)⟩,
 ⟨some 42, none, .lnl (.tmp 41)⟩,
 ⟨some 43, none, .bin .neq (.tmp 40) (.tmp 42)⟩,
 ⟨some 36, none, .mov (.tmp 43)⟩])
 (.cond (.tmp 36)
 (.seq (.ops [⟨some 4, none, .mov (.const (.slice none 0 0))⟩,
 ⟨some 5, none, .mov (.const (.int .i64 18))⟩])
 .ret)
 .skip)))))
 (.seq (.ops [⟨some 44, none, .agg [(.slice none 0 0), (.slice none 0 0), (.int .i64 0)] []⟩,
 ⟨some 45, none, .box (.tmp 44)⟩,
 ⟨some 10, none, .mov (.tmp 45)⟩])
 (.seq (.ops [⟨some 46, none, .mov (.tmp 10)⟩,
 ⟨some 47, none, .mov (.tmp 0)⟩,
 ⟨some 48, none, .sl 6 (.tmp 47) (some (.const (.int .i64 1))) none none⟩,
 ⟨some 49, none, .mov (.tmp 1)⟩,
 ⟨some 50, none, .call (.func 141) [(.tmp 46), (.tmp 48), (.tmp 49)]⟩])
 (.seq (.ops [⟨some 51, none, .mov (.tmp 10)⟩,
 ⟨some 52, none, .call (.func 142) [(.tmp 51)]⟩,
 ⟨some 53, none, .ext (.tmp 52) 0⟩,
 ⟨some 54, none, .ext (.tmp 52) 1⟩,
 ⟨some 4, none, .mov (.tmp 53)⟩,
 ⟨some 5, none, .mov (.tmp 54)⟩])
 .ret))))))⟩
theorem ok91 : compF Tryz.prog Tryz.f91 = some c91 := by kernel_rfl
def c92 : CF := ⟨74, [.tmp 4, .tmp 5, .tmp 6],
 (.seq (.ops [⟨some 4, none, .mov (.const (.slice none 0 0))⟩,
 ⟨some 5, none, .mov (.const (.int .i64 0))⟩,
 ⟨some 6, none, .mov (.const (.int .i64 0))⟩])
 (.seq (.ops [⟨some 16, none, .mov (.tmp 0)⟩,
 ⟨some 17, none, .call (.func 144) [(.tmp 16)]⟩,
 ⟨some 15, none, .mov (.tmp 17)⟩,
 ⟨some 18, none, .ext (.tmp 15) 0⟩,
 ⟨some 19, none, .ext (.tmp 15) 1⟩,
 ⟨some 7, none, .newz [(.string ⟨#[]⟩), (.int .i64 0), (.bool false), .nilFunc]⟩,
 ⟨none, none, .st 4 (.tmp 7) (.tmp 18)⟩,
 ⟨some 8, none, .mov (.tmp 19)⟩])
 (.seq (.seq (.ops [⟨some 20, none, .mov (.tmp 8)⟩,
 ⟨some 21, none, .un .not (.tmp 20)⟩])
 (.cond (.tmp 21)
 (.seq (.ops [⟨some 4, none, .mov (.const (.slice none 0 0))⟩,
 ⟨some 5, none, .mov (.const (.int .i64 0))⟩,
 ⟨some 6, none, .mov (.const (.int .i64 4))⟩])
 .ret)
 .skip))
 (.seq (.seq (.ops [⟨some 22, none, .mov (.tmp 1)⟩,
 ⟨some 23, none, .lnl (.tmp 22)⟩,
 ⟨some 24, none, .mov (.const (.int .i64 0))⟩])
 (.block 0 (.loop (.seq (.ops [⟨some 25, none, .bin .lss (.tmp 24) (.tmp 23)⟩])
 (.seq (.cond (.tmp 25)
 .skip
 (.exit 0))
 (.seq (.block 1 (.seq (.ops [⟨some 26, none, .mov (.tmp 24)⟩,
 ⟨some 27, none, .iad 1 (.tmp 22) (.tmp 24)⟩,
 ⟨some 28, none, .ld1 (.tmp 27)⟩,
 ⟨some 9, none, .mov (.tmp 26)⟩,
 ⟨some 10, none, .mov (.tmp 28)⟩])
 (.seq (.ops [⟨some 29, none, .mov (.tmp 10)⟩,
 ⟨some 30, none, .call (.func 145) [(.tmp 29)]⟩,
 ⟨some 11, none, .mov (.tmp 30)⟩])
 (.seq (.ops [⟨some 31, none, .mov (.tmp 11)⟩,
 ⟨some 32, none, .bin .neq (.tmp 31) (.const (.int .i64 0))⟩])
 (.cond (.tmp 32)
 (.seq (.ops [⟨some 33, none, .mov (.tmp 9)⟩,
 ⟨some 34, none, .mov (.tmp 11)⟩,
 ⟨some 4, none, .mov (.const (.slice none 0 0))⟩,
 ⟨some 5, none, .mov (.tmp 33)⟩,
 ⟨some 6, none, .mov (.tmp 34)⟩])
 .ret)
 .skip)))))
 (.ops [⟨some 35, none, .bin .add (.tmp 24) (.const (.int .i64 1))⟩,
 ⟨some 24, none, .mov (.tmp 35)⟩])))))))
 (.seq (.seq (.ops [⟨some 36, none, .mov (.tmp 1)⟩,
 ⟨some 37, none, .lnl (.tmp 36)⟩,
 ⟨some 38, none, .fad (.tmp 7) 1⟩,
 ⟨some 39, none, .ld1 (.tmp 38)⟩,
 ⟨some 40, none, .bin .neq (.tmp 37) (.tmp 39)⟩])
 (.cond (.tmp 40)
 (.seq (.ops [⟨some 4, none, .mov (.const (.slice none 0 0))⟩,
 ⟨some 5, none, .mov (.const (.int .i64 0))⟩,
 ⟨some 6, none, .mov (.const (.int .i64 18))⟩])
 .ret)
 .skip))
 (.seq (.ops [⟨some 41, none, .mov (.tmp 1)⟩,
 ⟨some 42, none, .agg [(.slice none 0 0), (.int .i64 0), (.int .i64 0)] [(0, 1, (.tmp 41))]⟩,
 ⟨some 12, none, .newz [(.slice none 0 0), (.int .i64 0), (.int .i64 0)]⟩,
 ⟨none, none, .st 3 (.tmp 12) (.tmp 42)⟩])
 (.seq (.seq (.ops [⟨some 43, none, .fad (.tmp 7) 2⟩,
 ⟨some 44, none, .ld1 (.tmp 43)⟩])
 (.cond (.tmp 44)
 (.seq (.seq (.ops [⟨some 45, none, .mov (.tmp 1)⟩,
 ⟨some 46, none, .call (.func 146) [(.tmp 45), (.func 147)]⟩,
 ⟨some 13, none, .mov (.tmp 46)⟩])
 (.seq (.ops [⟨some 47, none, .mov (.tmp 13)⟩,
 ⟨some 48, none, .bin .geq (.tmp 47) (.const (.int .i64 0))⟩])
 (.cond (.tmp 48)
 (.seq (.ops [⟨some 49, none, .mov (.tmp 13)⟩,
 ⟨some 4, none, .mov (.const (.slice none 0 0))⟩,
 ⟨some 5, none, .mov (.tmp 49)⟩,
 ⟨some 6, none, .mov (.const (.int .i64 19))⟩])
 .ret)
 .skip)))
 (.draw [⟨some 50, none, .mov (.tmp 1)⟩,
 ⟨some 51, none, .iad 1 (.tmp 50) (.const (.int .i64 0))⟩,
 ⟨some 52, none, .ld1 (.tmp 51)⟩,
 ⟨some 53, none, .iad 6 (.tmp 52) (.const (.int .i64 0))⟩,
 ⟨some 54, none, .fad (.tmp 53) 2⟩,
 ⟨some 55, none, .ld1 (.tmp 54)⟩,
 ⟨some 56, none, .mov (.tmp 1)⟩,
 ⟨some 57, none, .iad 1 (.tmp 56) (.const (.int .i64 1))⟩,
 ⟨some 58, none, .ld1 (.tmp 57)⟩,
 ⟨some 59, none, .iad 6 (.tmp 58) (.const (.int .i64 0))⟩,
 ⟨some 60, none, .fad (.tmp 59) 2⟩,
 ⟨some 61, none, .ld1 (.tmp 60)⟩,
 ⟨some 62, none, .fad (.tmp 12) 1⟩,
 ⟨none, none, .st 1 (.tmp 62) (.tmp 55)⟩,
 ⟨some 63, none, .fad (.tmp 12) 2⟩,
 ⟨none, none, .st 1 (.tmp 63) (.tmp 61)⟩] [(0, 6), (1, 6), (2, 6), (3, 6), (4, 6), (5, 6), (0, 7), (1, 7), (2, 7), (3, 7), (4, 7), (5, 7), (0, 8), (1, 8), (2, 8), (3, 8), (4, 8), (5, 8), (0, 9), (1, 9), (2, 9), (3, 9), (4, 9), (5, 9), (0, 10), (1, 10), (2, 10), (3, 10), (4, 10), (5, 10), (0, 11), (1, 11), (2, 11), (3, 11), (4, 11), (5, 11), (6, 12), (7, 12), (8, 12), (9, 12), (10, 12), (11, 12), (6, 13), (7, 13), (8, 13), (9, 13), (10, 13), (11, 13)]))
 .skip))
 (.seq (.ops [⟨some 64, none, .fad (.tmp 7) 3⟩,
 ⟨some 65, none, .ld1 (.tmp 64)⟩,
 ⟨some 66, none, .ld 3 (.tmp 12)⟩,
 ⟨some 67, none, .call (.tmp 65) [(.tmp 66)]⟩,
 ⟨some 14, none, .newz [(.slice none 0 0), (.int .i64 0), (.int .i64 0)]⟩,
 ⟨none, none, .st 3 (.tmp 14) (.tmp 67)⟩])
 (.seq (.draw [⟨some 68, none, .fad (.tmp 14) 0⟩,
 ⟨some 69, none, .ld1 (.tmp 68)⟩,
 ⟨some 70, none, .fad (.tmp 14) 1⟩,
 ⟨some 71, none, .ld1 (.tmp 70)⟩,
 ⟨some 72, none, .fad (.tmp 14) 2⟩,
 ⟨some 73, none, .ld1 (.tmp 72)⟩,
 ⟨some 4, none, .mov (.tmp 69)⟩,
 ⟨some 5, none, .mov (.tmp 71)⟩,
 ⟨some 6, none, .mov (.tmp 73)⟩] [(0, 2), (1, 2), (0, 3), (1, 3), (0, 4), (1, 4), (2, 4), (3, 4), (0, 5), (1, 5), (2, 5), (3, 5), (2, 6), (3, 6), (4, 6), (5, 6), (4, 7), (5, 7)])
 .ret)))))))))⟩
theorem ok92 : compF Tryz.prog Tryz.f92 = some c92 := by kernel_rfl
def c93 : CF := ⟨23, [.tmp 4],
 (.seq (.ops [⟨some 4, none, .mov (.const (.int .i64 0))⟩])
 (.seq (.seq (.ops [⟨some 8, none, .mov (.tmp 0)⟩,
 ⟨some 9, none, .call (.func 94) [(.tmp 8)]⟩,
 ⟨some 7, none, .mov (.tmp 9)⟩,
 ⟨some 10, none, .ext (.tmp 7) 0⟩,
 ⟨some 11, none, .ext (.tmp 7) 1⟩,
 ⟨some 5, none, .mov (.tmp 10)⟩,
 ⟨some 6, none, .mov (.tmp 11)⟩])
 (.seq (.ops [⟨some 12, none, .mov (.tmp 6)⟩,
 ⟨some 13, none, .bin .neq (.tmp 12) (.const (.int .i64 0))⟩])
 (.cond (.tmp 13)
 (.seq (.ops [⟨some 14, none, .mov (.tmp 6)⟩,
 ⟨some 4, none, .mov (.tmp 14)⟩])
 .ret)
 .skip)))
 (.seq (.seq (.ops [⟨some 15, none, .mov (.tmp 1)⟩,
 ⟨some 16, none, .bin .lss (.tmp 15) (.const (.int .i64 0))⟩,
 ⟨some 17, none, .mov (.tmp 16)⟩,
 ⟨some 18, (some (17, false)), .mov (.tmp 1)⟩,
 ⟨some 19, (some (17, false)), .mov (.tmp 0)⟩,
 ⟨some 20, (some (17, false)), .lnl (.tmp 19)⟩,
 ⟨some 21, (some (17, false)), .bin .geq (.tmp 18) (.tmp 20)⟩,
 ⟨some 22, none, .pick (.tmp 17) (.const (.bool true)) (.tmp 21)⟩])
 (.cond (.tmp 22)
 (.seq (.ops [⟨some 4, none, .mov (.const (.int .i64 4))⟩])
 .ret)
 .skip))
 (.seq (.ops [⟨some 4, none, .mov (.const (.int .i64 0))⟩])
 .ret))))⟩
theorem ok93 : compF Tryz.prog Tryz.f93 = some c93 := by kernel_rfl
def c94 : CF := ⟨19, [.tmp 2, .tmp 3],
 (.seq (.ops [⟨some 2, none, .mov (.const (.bool false))⟩,
 ⟨some 3, none, .mov (.const (.int .i64 0))⟩])
 (.seq (.seq (.ops [⟨some 7, none, .mov (.tmp 0)⟩,
 ⟨some 8, none, .call (.func 37) [(.tmp 7), (.const (.bool false))]⟩,
 ⟨some 6, none, .mov (.tmp 8)⟩,
 ⟨some 9, none, .ext (.tmp 6) 0⟩,
 ⟨some 10, none, .ext (.tmp 6) 1⟩,
 ⟨some 4, none, .mov (.tmp 9)⟩,
 ⟨some 5, none, .mov (.tmp 10)⟩])
 (.seq (.ops [⟨some 11, none, .mov (.tmp 5)⟩,
 ⟨some 12, none, .bin .eql (.tmp 11) (.const (.int .i64 0))⟩])
 (.cond (.tmp 12)
 (.seq (.ops [⟨some 2, none, .mov (.const (.bool false))⟩,
 ⟨some 3, none, .mov (.const (.int .i64 0))⟩])
 .ret)
 .skip)))
 (.seq (.ops [⟨some 14, none, .mov (.tmp 0)⟩,
 ⟨some 15, none, .call (.func 37) [(.tmp 14), (.const (.bool true))]⟩,
 ⟨some 13, none, .mov (.tmp 15)⟩,
 ⟨some 16, none, .ext (.tmp 13) 0⟩,
 ⟨some 17, none, .ext (.tmp 13) 1⟩,
 ⟨some 3, none, .mov (.tmp 17)⟩])
 (.seq (.ops [⟨some 18, none, .mov (.tmp 3)⟩,
 ⟨some 2, none, .mov (.const (.bool true))⟩,
 ⟨some 3, none, .mov (.tmp 18)⟩])
 .ret))))⟩
theorem ok94 : compF Tryz.prog Tryz.f94 = some c94 := by kernel_rfl
def c95 : CF := ⟨36, [.tmp 2],
 (.seq (.ops [⟨some 2, none, .mov (.const (.slice none 0 0))⟩])
 (.seq (.ops [⟨some 3, none, .mov (.const (.int .i64 0))⟩])
 (.seq (.seq (.ops [⟨some 9, none, .mov (.tmp 0)⟩,
 ⟨some 10, none, .lnl (.tmp 9)⟩,
 ⟨some 11, none, .mov (.const (.int .i64 0))⟩])
 (.block 0 (.loop (.seq (.ops [⟨some 12, none, .bin .lss (.tmp 11) (.tmp 10)⟩])
 (.seq (.cond (.tmp 12)
 .skip
 (.exit 0))
 (.seq (.block 1 (.seq (.ops [⟨some 13, none, .iad 1 (.tmp 9) (.tmp 11)⟩,
 ⟨some 14, none, .ld1 (.tmp 13)⟩,
 ⟨some 5, none, .mov (.tmp 14)⟩])
 (.seq (.ops [⟨some 15, none, .mov (.tmp 3)⟩,
 ⟨some 16, none, .mov (.tmp 5)⟩,
 ⟨some 17, none, .lnl (.tmp 16)⟩,
 ⟨some 18, none, .bin .add (.tmp 15) (.tmp 17)⟩,
 ⟨some 3, none, .mov (.tmp 18)⟩])
 (.seq (.ops [⟨some 19, none, .mov (.tmp 3)⟩,
 ⟨some 20, none, .bin .lss (.tmp 19) (.const (.int .i64 0))⟩])
 (.cond (.tmp 20)
 (.ops [⟨some 21, none, .ifc 9 (.const (.string ⟨#[108, 101, 110, 32, 111, 117, 116, 32, 111, 102, 32, 114, 97, 110, 103, 101]⟩))⟩,
 ⟨none, none, .bad⟩])
 .skip)))))
 (.ops [⟨some 22, none, .bin .add (.tmp 11) (.const (.int .i64 1))⟩,
 ⟨some 11, none, .mov (.tmp 22)⟩])))))))
 (.seq (.ops [⟨some 23, none, .mov (.tmp 3)⟩,
 ⟨some 24, none, .call (.func 148) [(.const (.slice none 0 0)), (.tmp 23)]⟩,
 ⟨some 6, none, .mov (.tmp 24)⟩])
 (.seq (.seq (.ops [⟨some 25, none, .mov (.tmp 0)⟩,
 ⟨some 26, none, .lnl (.tmp 25)⟩,
 ⟨some 27, none, .mov (.const (.int .i64 0))⟩])
 (.block 2 (.loop (.seq (.ops [⟨some 28, none, .bin .lss (.tmp 27) (.tmp 26)⟩])
 (.seq (.cond (.tmp 28)
 .skip
 (.exit 2))
 (.seq (.block 3 (.seq (.ops [⟨some 29, none, .iad 1 (.tmp 25) (.tmp 27)⟩,
 ⟨some 30, none, .ld1 (.tmp 29)⟩,
 ⟨some 8, none, .mov (.tmp 30)⟩])
 (.ops [⟨some 31, none, .mov (.tmp 6)⟩,
 ⟨some 32, none, .mov (.tmp 8)⟩,
 ⟨some 33, none, .app 6 48 none (.tmp 31) (.tmp 32)⟩,
 ⟨some 6, none, .mov (.tmp 33)⟩])))
 (.ops [⟨some 34, none, .bin .add (.tmp 27) (.const (.int .i64 1))⟩,
 ⟨some 27, none, .mov (.tmp 34)⟩])))))))
 (.seq (.ops [⟨some 35, none, .mov (.tmp 6)⟩,
 ⟨some 2, none, .mov (.tmp 35)⟩])
 .ret))))))⟩
theorem ok95 : compF Tryz.prog Tryz.f95 = some c95 := by kernel_rfl
def c96 : CF := ⟨42, [.tmp 2],
 (.seq (.ops [⟨some 2, none, .mov (.const (.bool false))⟩])
 (.seq (.ops [⟨some 6, none, .lits [(.int .i64 0)] 1 [(0, 1, (.const (.int .i64 1)))]⟩,
 ⟨some 3, none, .mov (.tmp 6)⟩])
 (.seq (.seq (.ops [⟨some 7, none, .mov (.tmp 0)⟩,
 ⟨some 8, none, .lnl (.tmp 7)⟩,
 ⟨some 9, none, .mov (.const (.int .i64 0))⟩])
 (.block 0 (.loop (.seq (.ops [⟨some 10, none, .bin .lss (.tmp 9) (.tmp 8)⟩])
 (.seq (.cond (.tmp 10)
 .skip
 (.exit 0))
 (.seq (.block 1 (.seq (.ops [⟨some 11, none, .iad 6 (.tmp 7) (.tmp 9)⟩,
 ⟨some 12, none, .ld 6 (.tmp 11)⟩,
 ⟨some 5, none, .newz [(.int .i64 0), (.int .i64 0), (.int .i64 0), (.string ⟨#[]⟩), (.int .i32 0), (.int .i32 0)]⟩,
 ⟨none, none, .st 6 (.tmp 5) (.tmp 12)⟩])
 (.seq (.block 2 (.loop (.seq (.seq (.ops [⟨some 13, none, .mov (.tmp 3)⟩,
 ⟨some 14, none, .mov (.tmp 3)⟩,
 ⟨some 15, none, .lnl (.tmp 14)⟩,
 ⟨some 16, none, .bin .sub (.tmp 15) (.const (.int .i64 1))⟩,
 ⟨some 17, none, .iad 1 (.tmp 13) (.tmp 16)⟩,
 ⟨some 18, none, .ld1 (.tmp 17)⟩,
 ⟨some 19, none, .bin .eql (.tmp 18) (.const (.int .i64 0))⟩])
 (.cond (.tmp 19)
 .skip
 (.exit 2)))
 (.block 3 (.ops [⟨some 20, none, .mov (.tmp 3)⟩,
 ⟨some 21, none, .mov (.tmp 3)⟩,
 ⟨some 22, none, .lnl (.tmp 21)⟩,
 ⟨some 23, none, .bin .sub (.tmp 22) (.const (.int .i64 1))⟩,
 ⟨some 24, none, .sl 1 (.tmp 20) none (some (.tmp 23)) none⟩,
 ⟨some 3, none, .mov (.tmp 24)⟩])))))
 (.seq (.seq (.ops [⟨some 25, none, .mov (.tmp 3)⟩,
 ⟨some 26, none, .lnl (.tmp 25)⟩,
 ⟨some 27, none, .bin .gtr (.tmp 26) (.const (.int .i64 201))⟩])
 (.cond (.tmp 27)
 (.seq (.ops [⟨some 2, none, .mov (.const (.bool true))⟩])
 .ret)
 .skip))
 (.seq (.ops [⟨some 28, none, .mov (.tmp 3)⟩,
 ⟨some 29, none, .mov (.tmp 3)⟩,
 ⟨some 30, none, .lnl (.tmp 29)⟩,
 ⟨some 31, none, .bin .sub (.tmp 30) (.const (.int .i64 1))⟩,
 ⟨some 32, none, .iad 1 (.tmp 28) (.tmp 31)⟩,
 ⟨some 33, none, .ld1 (.tmp 32)⟩,
 ⟨some 34, none, .bin .sub (.tmp 33) (.const (.int .i64 1))⟩,
 ⟨some 35, none, .iad 1 (.tmp 28) (.tmp 31)⟩,
 ⟨none, none, .st 1 (.tmp 35) (.tmp 34)⟩])
 (.ops [⟨some 36, none, .mov (.tmp 3)⟩,
 ⟨some 37, none, .fad (.tmp 5) 1⟩,
 ⟨some 38, none, .ld1 (.tmp 37)⟩,
 ⟨some 39, none, .lits [(.int .i64 0)] 1 [(0, 1, (.tmp 38))]⟩,
 ⟨some 40, none, .app 1 8 none (.tmp 36) (.tmp 39)⟩,
 ⟨some 3, none, .mov (.tmp 40)⟩]))))))
 (.ops [⟨some 41, none, .bin .add (.tmp 9) (.const (.int .i64 1))⟩,
 ⟨some 9, none, .mov (.tmp 41)⟩])))))))
 (.seq (.ops [⟨some 2, none, .mov (.const (.bool false))⟩])
 .ret))))⟩
theorem ok96 : compF Tryz.prog Tryz.f96 = some c96 := by kernel_rfl
end Go.Proofs.YtiblfhiiombfcaaGreatDoor.code
