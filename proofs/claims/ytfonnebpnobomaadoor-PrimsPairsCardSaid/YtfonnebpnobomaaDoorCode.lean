/- The code that the law reaches, as the interpreter takes it; each function's is shown to be the program's own. By an AI agent. No person has read it. -/
import Derived.Test.YtfonnebpnobomaaDoorAm4
import Derived.Test.YtfonnebpnobomaaDoorChecked
import Derived.KernelRfl
namespace Go.Proofs.YtfonnebpnobomaaDoor.code
open Go Am
set_option maxRecDepth 100000
def c4 : CF := ⟨66, [.tmp 4],
 (.seq (.ops [⟨some 4, none, .mov (.const (.bool false))⟩])
 (.seq (.seq (.ops [⟨some 12, none, .mov (.tmp 0)⟩,
 ⟨some 13, none, .call (.func 12) [(.tmp 12)]⟩,
 ⟨some 14, none, .mov (.tmp 13)⟩,
 ⟨some 15, (some (14, false)), .mov (.tmp 1)⟩,
 ⟨some 16, (some (14, false)), .call (.func 12) [(.tmp 15)]⟩,
 ⟨some 17, none, .pick (.tmp 14) (.const (.bool true)) (.tmp 16)⟩])
 (.cond (.tmp 17)
 (.seq (.ops [⟨some 18, none, .call (.func 9) []⟩,
 ⟨some 4, none, .mov (.tmp 18)⟩])
 .ret)
 .skip))
 (.seq (.ops [⟨some 20, none, .mov (.tmp 0)⟩,
 ⟨some 21, none, .mov (.tmp 1)⟩,
 ⟨some 22, none, .lits [(.slice none 0 0), (.slice none 0 0)] 2 [(0, 1, (.tmp 20)), (1, 1, (.tmp 21))]⟩,
 ⟨some 23, none, .call (.func 13) [(.const (.string ⟨#[99, 111, 110, 115]⟩)), (.tmp 22)]⟩,
 ⟨some 19, none, .mov (.tmp 23)⟩,
 ⟨some 24, none, .ext (.tmp 19) 0⟩,
 ⟨some 25, none, .ext (.tmp 19) 1⟩,
 ⟨some 26, none, .ext (.tmp 19) 2⟩,
 ⟨some 5, none, .mov (.tmp 24)⟩,
 ⟨some 6, none, .mov (.tmp 25)⟩,
 ⟨some 7, none, .mov (.tmp 26)⟩])
 (.seq (.seq (.ops [⟨some 27, none, .mov (.tmp 7)⟩,
 ⟨some 28, none, .bin .neq (.tmp 27) (.const (.int .i64 0))⟩])
 (.cond (.tmp 28)
 (.seq (.ops [⟨some 29, none, .mov (.tmp 5)⟩,
 ⟨some 30, none, .lnl (.tmp 29)⟩,
 ⟨some 31, none, .bin .eql (.tmp 30) (.const (.int .i64 0))⟩,
 ⟨some 32, none, .mov (.tmp 31)⟩,
 ⟨some 33, (some (32, true)), .call (.func 9) []⟩,
 ⟨some 34, none, .pick (.tmp 32) (.tmp 33) (.const (.bool false))⟩,
 ⟨some 4, none, .mov (.tmp 34)⟩])
 .ret)
 .skip))
 (.seq (.ops [⟨some 36, none, .mov (.tmp 5)⟩,
 ⟨some 37, none, .lits [(.slice none 0 0)] 1 [(0, 1, (.tmp 36))]⟩,
 ⟨some 38, none, .call (.func 8) [(.const (.string ⟨#[99, 97, 114]⟩)), (.tmp 37)]⟩,
 ⟨some 35, none, .mov (.tmp 38)⟩,
 ⟨some 39, none, .ext (.tmp 35) 0⟩,
 ⟨some 40, none, .ext (.tmp 35) 1⟩,
 ⟨some 8, none, .mov (.tmp 39)⟩,
 ⟨some 9, none, .mov (.tmp 40)⟩])
 (.seq (.ops [⟨some 42, none, .mov (.tmp 5)⟩,
 ⟨some 43, none, .lits [(.slice none 0 0)] 1 [(0, 1, (.tmp 42))]⟩,
 ⟨some 44, none, .call (.func 8) [(.const (.string ⟨#[99, 100, 114]⟩)), (.tmp 43)]⟩,
 ⟨some 41, none, .mov (.tmp 44)⟩,
 ⟨some 45, none, .ext (.tmp 41) 0⟩,
 ⟨some 46, none, .ext (.tmp 41) 1⟩,
 ⟨some 10, none, .mov (.tmp 45)⟩,
 ⟨some 11, none, .mov (.tmp 46)⟩])
 (.seq (.ops [⟨some 47, none, .mov (.tmp 9)⟩,
 ⟨some 48, none, .bin .eql (.tmp 47) (.const (.int .i64 0))⟩,
 ⟨some 49, none, .mov (.tmp 48)⟩,
 ⟨some 50, (some (49, true)), .mov (.tmp 11)⟩,
 ⟨some 51, (some (49, true)), .bin .eql (.tmp 50) (.const (.int .i64 0))⟩,
 ⟨some 52, none, .pick (.tmp 49) (.tmp 51) (.const (.bool false))⟩,
 ⟨some 53, none, .mov (.tmp 52)⟩,
 ⟨some 54, (some (53, true)), .mov (.tmp 8)⟩,
 ⟨some 55, (some (53, true)), .mov (.tmp 0)⟩,
 ⟨some 56, (some (53, true)), .call (.func 11) [(.tmp 54), (.tmp 55)]⟩,
 ⟨some 57, none, .pick (.tmp 53) (.tmp 56) (.const (.bool false))⟩,
 ⟨some 58, none, .mov (.tmp 57)⟩,
 ⟨some 59, (some (58, true)), .mov (.tmp 10)⟩,
 ⟨some 60, (some (58, true)), .mov (.tmp 1)⟩,
 ⟨some 61, (some (58, true)), .call (.func 11) [(.tmp 59), (.tmp 60)]⟩,
 ⟨some 62, none, .pick (.tmp 58) (.tmp 61) (.const (.bool false))⟩,
 ⟨some 63, none, .mov (.tmp 62)⟩,
 ⟨some 64, (some (63, true)), .call (.func 9) []⟩,
 ⟨some 65, none, .pick (.tmp 63) (.tmp 64) (.const (.bool false))⟩,
 ⟨some 4, none, .mov (.tmp 65)⟩])
 .ret)))))))⟩
theorem ok4 : compF Tryd.prog Tryd.f4 = some c4 := by kernel_rfl
def c7 : CF := ⟨6, [.tmp 2],
 (.seq (.ops [⟨some 2, none, .mov (.const (.slice none 0 0))⟩])
 (.seq (.ops [⟨some 3, none, .mov (.tmp 0)⟩,
 ⟨some 4, none, .agg [(.int .i64 0), (.int .i64 0), (.int .i64 0), (.string ⟨#[]⟩), (.int .i32 0), (.int .i32 0)] [(0, 1, (.const (.int .i64 1))), (2, 1, (.tmp 3))]⟩,
 ⟨some 5, none, .lits [(.int .i64 0), (.int .i64 0), (.int .i64 0), (.string ⟨#[]⟩), (.int .i32 0), (.int .i32 0)] 1 [(0, 6, (.tmp 4))]⟩,
 ⟨some 2, none, .mov (.tmp 5)⟩])
 .ret))⟩
theorem ok7 : compF Tryd.prog Tryd.f7 = some c7 := by kernel_rfl
def c8 : CF := ⟨18, [.tmp 4, .tmp 5],
 (.seq (.ops [⟨some 4, none, .mov (.const (.slice none 0 0))⟩,
 ⟨some 5, none, .mov (.const (.int .i64 0))⟩])
 (.seq (.ops [⟨some 10, none, .mov (.tmp 0)⟩,
 ⟨some 11, none, .mov (.tmp 1)⟩,
 ⟨some 12, none, .call (.func 13) [(.tmp 10), (.tmp 11)]⟩,
 ⟨some 9, none, .mov (.tmp 12)⟩,
 ⟨some 13, none, .ext (.tmp 9) 0⟩,
 ⟨some 14, none, .ext (.tmp 9) 1⟩,
 ⟨some 15, none, .ext (.tmp 9) 2⟩,
 ⟨some 6, none, .mov (.tmp 13)⟩,
 ⟨some 7, none, .mov (.tmp 14)⟩,
 ⟨some 8, none, .mov (.tmp 15)⟩])
 (.seq (.ops [⟨some 16, none, .mov (.tmp 6)⟩,
 ⟨some 17, none, .mov (.tmp 8)⟩,
 ⟨some 4, none, .mov (.tmp 16)⟩,
 ⟨some 5, none, .mov (.tmp 17)⟩])
 .ret)))⟩
theorem ok8 : compF Tryd.prog Tryd.f8 = some c8 := by kernel_rfl
def c9 : CF := ⟨98, [.tmp 0],
 (.seq (.ops [⟨some 0, none, .mov (.const (.bool false))⟩])
 (.seq (.ops [⟨some 15, none, .call (.func 7) [(.const (.int .i64 2))]⟩,
 ⟨some 16, none, .call (.func 7) [(.const (.int .i64 3))]⟩,
 ⟨some 17, none, .lits [(.slice none 0 0), (.slice none 0 0)] 2 [(0, 1, (.tmp 15)), (1, 1, (.tmp 16))]⟩,
 ⟨some 18, none, .call (.func 8) [(.const (.string ⟨#[43]⟩)), (.tmp 17)]⟩,
 ⟨some 14, none, .mov (.tmp 18)⟩,
 ⟨some 19, none, .ext (.tmp 14) 0⟩,
 ⟨some 20, none, .ext (.tmp 14) 1⟩,
 ⟨some 1, none, .mov (.tmp 19)⟩,
 ⟨some 2, none, .mov (.tmp 20)⟩])
 (.seq (.ops [⟨some 22, none, .call (.func 7) [(.const (.int .i64 9223372036854775807))]⟩,
 ⟨some 23, none, .call (.func 7) [(.const (.int .i64 1))]⟩,
 ⟨some 24, none, .lits [(.slice none 0 0), (.slice none 0 0)] 2 [(0, 1, (.tmp 22)), (1, 1, (.tmp 23))]⟩,
 ⟨some 25, none, .call (.func 8) [(.const (.string ⟨#[43]⟩)), (.tmp 24)]⟩,
 ⟨some 21, none, .mov (.tmp 25)⟩,
 ⟨some 26, none, .ext (.tmp 21) 0⟩,
 ⟨some 27, none, .ext (.tmp 21) 1⟩,
 ⟨some 3, none, .mov (.tmp 26)⟩,
 ⟨some 4, none, .mov (.tmp 27)⟩])
 (.seq (.ops [⟨some 29, none, .call (.func 7) [(.const (.int .i64 2))]⟩,
 ⟨some 30, none, .call (.func 15) [(.const (.int .i64 1))]⟩,
 ⟨some 31, none, .lits [(.slice none 0 0), (.slice none 0 0)] 2 [(0, 1, (.tmp 29)), (1, 1, (.tmp 30))]⟩,
 ⟨some 32, none, .call (.func 13) [(.const (.string ⟨#[43]⟩)), (.tmp 31)]⟩,
 ⟨some 28, none, .mov (.tmp 32)⟩,
 ⟨some 33, none, .ext (.tmp 28) 0⟩,
 ⟨some 34, none, .ext (.tmp 28) 1⟩,
 ⟨some 35, none, .ext (.tmp 28) 2⟩,
 ⟨some 5, none, .mov (.tmp 33)⟩,
 ⟨some 6, none, .mov (.tmp 34)⟩,
 ⟨some 7, none, .mov (.tmp 35)⟩])
 (.seq (.ops [⟨some 37, none, .call (.func 7) [(.const (.int .i64 (-7)))]⟩,
 ⟨some 38, none, .call (.func 7) [(.const (.int .i64 2))]⟩,
 ⟨some 39, none, .lits [(.slice none 0 0), (.slice none 0 0)] 2 [(0, 1, (.tmp 37)), (1, 1, (.tmp 38))]⟩,
 ⟨some 40, none, .call (.func 8) [(.const (.string ⟨#[113, 117, 111, 116, 105, 101, 110, 116]⟩)), (.tmp 39)]⟩,
 ⟨some 36, none, .mov (.tmp 40)⟩,
 ⟨some 41, none, .ext (.tmp 36) 0⟩,
 ⟨some 42, none, .ext (.tmp 36) 1⟩,
 ⟨some 8, none, .mov (.tmp 41)⟩,
 ⟨some 9, none, .mov (.tmp 42)⟩])
 (.seq (.ops [⟨some 44, none, .call (.func 7) [(.const (.int .i64 1))]⟩,
 ⟨some 45, none, .call (.func 7) [(.const (.int .i64 0))]⟩,
 ⟨some 46, none, .lits [(.slice none 0 0), (.slice none 0 0)] 2 [(0, 1, (.tmp 44)), (1, 1, (.tmp 45))]⟩,
 ⟨some 47, none, .call (.func 8) [(.const (.string ⟨#[113, 117, 111, 116, 105, 101, 110, 116]⟩)), (.tmp 46)]⟩,
 ⟨some 43, none, .mov (.tmp 47)⟩,
 ⟨some 48, none, .ext (.tmp 43) 0⟩,
 ⟨some 49, none, .ext (.tmp 43) 1⟩,
 ⟨some 10, none, .mov (.tmp 48)⟩,
 ⟨some 11, none, .mov (.tmp 49)⟩])
 (.seq (.ops [⟨some 51, none, .call (.func 17) [(.const (.string ⟨#[97]⟩))]⟩,
 ⟨some 52, none, .call (.func 17) [(.const (.string ⟨#[97]⟩))]⟩,
 ⟨some 53, none, .lits [(.slice none 0 0), (.slice none 0 0)] 2 [(0, 1, (.tmp 51)), (1, 1, (.tmp 52))]⟩,
 ⟨some 54, none, .call (.func 8) [(.const (.string ⟨#[101, 113, 63]⟩)), (.tmp 53)]⟩,
 ⟨some 50, none, .mov (.tmp 54)⟩,
 ⟨some 55, none, .ext (.tmp 50) 0⟩,
 ⟨some 56, none, .ext (.tmp 50) 1⟩,
 ⟨some 12, none, .mov (.tmp 55)⟩,
 ⟨some 13, none, .mov (.tmp 56)⟩])
 (.seq (.ops [⟨some 57, none, .mov (.tmp 2)⟩,
 ⟨some 58, none, .bin .eql (.tmp 57) (.const (.int .i64 0))⟩,
 ⟨some 59, none, .mov (.tmp 58)⟩,
 ⟨some 60, (some (59, true)), .mov (.tmp 4)⟩,
 ⟨some 61, (some (59, true)), .bin .eql (.tmp 60) (.const (.int .i64 20))⟩,
 ⟨some 62, none, .pick (.tmp 59) (.tmp 61) (.const (.bool false))⟩,
 ⟨some 63, none, .mov (.tmp 62)⟩,
 ⟨some 64, (some (63, true)), .mov (.tmp 7)⟩,
 ⟨some 65, (some (63, true)), .bin .eql (.tmp 64) (.const (.int .i64 19))⟩,
 ⟨some 66, none, .pick (.tmp 63) (.tmp 65) (.const (.bool false))⟩,
 ⟨some 67, none, .mov (.tmp 66)⟩,
 ⟨some 68, (some (67, true)), .mov (.tmp 9)⟩,
 ⟨some 69, (some (67, true)), .bin .eql (.tmp 68) (.const (.int .i64 0))⟩,
 ⟨some 70, none, .pick (.tmp 67) (.tmp 69) (.const (.bool false))⟩,
 ⟨some 71, none, .mov (.tmp 70)⟩,
 ⟨some 72, (some (71, true)), .mov (.tmp 11)⟩,
 ⟨some 73, (some (71, true)), .bin .eql (.tmp 72) (.const (.int .i64 21))⟩,
 ⟨some 74, none, .pick (.tmp 71) (.tmp 73) (.const (.bool false))⟩,
 ⟨some 75, none, .mov (.tmp 74)⟩,
 ⟨some 76, (some (75, true)), .mov (.tmp 13)⟩,
 ⟨some 77, (some (75, true)), .bin .eql (.tmp 76) (.const (.int .i64 0))⟩,
 ⟨some 78, none, .pick (.tmp 75) (.tmp 77) (.const (.bool false))⟩,
 ⟨some 79, none, .mov (.tmp 78)⟩,
 ⟨some 80, (some (79, true)), .mov (.tmp 6)⟩,
 ⟨some 81, (some (79, true)), .bin .eql (.tmp 80) (.const (.int .i64 1))⟩,
 ⟨some 82, none, .pick (.tmp 79) (.tmp 81) (.const (.bool false))⟩,
 ⟨some 83, none, .mov (.tmp 82)⟩,
 ⟨some 84, (some (83, true)), .mov (.tmp 1)⟩,
 ⟨some 85, (some (83, true)), .call (.func 7) [(.const (.int .i64 5))]⟩,
 ⟨some 86, (some (83, true)), .call (.func 11) [(.tmp 84), (.tmp 85)]⟩,
 ⟨some 87, none, .pick (.tmp 83) (.tmp 86) (.const (.bool false))⟩,
 ⟨some 88, none, .mov (.tmp 87)⟩,
 ⟨some 89, (some (88, true)), .mov (.tmp 8)⟩,
 ⟨some 90, (some (88, true)), .call (.func 7) [(.const (.int .i64 (-3)))]⟩,
 ⟨some 91, (some (88, true)), .call (.func 11) [(.tmp 89), (.tmp 90)]⟩,
 ⟨some 92, none, .pick (.tmp 88) (.tmp 91) (.const (.bool false))⟩,
 ⟨some 93, none, .mov (.tmp 92)⟩,
 ⟨some 94, (some (93, true)), .mov (.tmp 12)⟩,
 ⟨some 95, (some (93, true)), .call (.func 15) [(.const (.int .i64 1))]⟩,
 ⟨some 96, (some (93, true)), .call (.func 11) [(.tmp 94), (.tmp 95)]⟩,
 ⟨some 97, none, .pick (.tmp 93) (.tmp 96) (.const (.bool false))⟩,
 ⟨some 0, none, .mov (.tmp 97)⟩])
 .ret))))))))⟩
theorem ok9 : compF Tryd.prog Tryd.f9 = some c9 := by kernel_rfl
def c11 : CF := ⟨26, [.tmp 4],
 (.seq (.ops [⟨some 4, none, .mov (.const (.bool false))⟩])
 (.seq (.seq (.ops [⟨some 6, none, .mov (.tmp 0)⟩,
 ⟨some 7, none, .lnl (.tmp 6)⟩,
 ⟨some 8, none, .mov (.tmp 1)⟩,
 ⟨some 9, none, .lnl (.tmp 8)⟩,
 ⟨some 10, none, .bin .neq (.tmp 7) (.tmp 9)⟩])
 (.cond (.tmp 10)
 (.seq (.ops [⟨some 4, none, .mov (.const (.bool false))⟩])
 .ret)
 .skip))
 (.seq (.seq (.ops [⟨some 5, none, .mov (.const (.int .i64 0))⟩])
 (.block 0 (.loop (.seq (.seq (.ops [⟨some 11, none, .mov (.tmp 5)⟩,
 ⟨some 12, none, .mov (.tmp 0)⟩,
 ⟨some 13, none, .lnl (.tmp 12)⟩,
 ⟨some 14, none, .bin .lss (.tmp 11) (.tmp 13)⟩])
 (.cond (.tmp 14)
 .skip
 (.exit 0)))
 (.seq (.block 1 (.seq (.draw [⟨some 17, none, .mov (.tmp 0)⟩,
 ⟨some 18, none, .mov (.tmp 5)⟩,
 ⟨some 19, none, .iad 6 (.tmp 17) (.tmp 18)⟩,
 ⟨some 20, none, .ld 6 (.tmp 19)⟩,
 ⟨some 21, none, .mov (.tmp 1)⟩,
 ⟨some 22, none, .mov (.tmp 5)⟩,
 ⟨some 23, none, .iad 6 (.tmp 21) (.tmp 22)⟩,
 ⟨some 24, none, .ld 6 (.tmp 23)⟩,
 ⟨some 25, none, .eqc true [0, 0, 0, 1, 0, 0] (.tmp 20) (.tmp 24)⟩] [(0, 1), (0, 4), (1, 4), (2, 4), (3, 4), (0, 5), (1, 5), (2, 5), (3, 5), (4, 5), (0, 6), (1, 6), (2, 6), (3, 6), (0, 7), (1, 7), (2, 7), (3, 7)])
 (.cond (.tmp 25)
 (.seq (.ops [⟨some 4, none, .mov (.const (.bool false))⟩])
 .ret)
 .skip)))
 (.ops [⟨some 15, none, .mov (.tmp 5)⟩,
 ⟨some 16, none, .bin .add (.tmp 15) (.const (.int .i64 1))⟩,
 ⟨some 5, none, .mov (.tmp 16)⟩]))))))
 (.seq (.ops [⟨some 4, none, .mov (.const (.bool true))⟩])
 .ret))))⟩
theorem ok11 : compF Tryd.prog Tryd.f11 = some c11 := by kernel_rfl
def c12 : CF := ⟨34, [.tmp 2],
 (.seq (.ops [⟨some 2, none, .mov (.const (.bool false))⟩])
 (.seq (.seq (.ops [⟨some 3, none, .mov (.const (.int .i64 0))⟩])
 (.block 0 (.loop (.seq (.seq (.ops [⟨some 4, none, .mov (.tmp 3)⟩,
 ⟨some 5, none, .mov (.tmp 0)⟩,
 ⟨some 6, none, .lnl (.tmp 5)⟩,
 ⟨some 7, none, .bin .lss (.tmp 4) (.tmp 6)⟩,
 ⟨some 8, none, .mov (.tmp 7)⟩,
 ⟨some 9, (some (8, true)), .mov (.tmp 3)⟩,
 ⟨some 10, (some (8, true)), .bin .lss (.tmp 9) (.const (.int .i64 100))⟩,
 ⟨some 11, none, .pick (.tmp 8) (.tmp 10) (.const (.bool false))⟩])
 (.cond (.tmp 11)
 .skip
 (.exit 0)))
 (.seq (.block 1 (.seq (.ops [⟨some 14, none, .mov (.tmp 0)⟩,
 ⟨some 15, none, .mov (.tmp 3)⟩,
 ⟨some 16, none, .iad 6 (.tmp 14) (.tmp 15)⟩,
 ⟨some 17, none, .fad (.tmp 16) 3⟩,
 ⟨some 18, none, .ld1 (.tmp 17)⟩,
 ⟨some 19, none, .lns (.tmp 18)⟩,
 ⟨some 20, none, .bin .gtr (.tmp 19) (.const (.int .i64 60))⟩])
 (.cond (.tmp 20)
 (.seq (.ops [⟨some 2, none, .mov (.const (.bool true))⟩])
 .ret)
 .skip)))
 (.ops [⟨some 12, none, .mov (.tmp 3)⟩,
 ⟨some 13, none, .bin .add (.tmp 12) (.const (.int .i64 1))⟩,
 ⟨some 3, none, .mov (.tmp 13)⟩]))))))
 (.seq (.ops [⟨some 21, none, .mov (.tmp 0)⟩,
 ⟨some 22, none, .lnl (.tmp 21)⟩,
 ⟨some 23, none, .bin .gtr (.tmp 22) (.const (.int .i64 80))⟩,
 ⟨some 24, none, .mov (.tmp 23)⟩,
 ⟨some 25, (some (24, true)), .mov (.tmp 0)⟩,
 ⟨some 26, (some (24, true)), .lnl (.tmp 25)⟩,
 ⟨some 27, (some (24, true)), .bin .lss (.tmp 26) (.const (.int .i64 1900))⟩,
 ⟨some 28, none, .pick (.tmp 24) (.tmp 27) (.const (.bool false))⟩,
 ⟨some 29, none, .mov (.tmp 28)⟩,
 ⟨some 30, (some (29, false)), .mov (.tmp 0)⟩,
 ⟨some 31, (some (29, false)), .lnl (.tmp 30)⟩,
 ⟨some 32, (some (29, false)), .bin .gtr (.tmp 31) (.const (.int .i64 2020))⟩,
 ⟨some 33, none, .pick (.tmp 29) (.const (.bool true)) (.tmp 32)⟩,
 ⟨some 2, none, .mov (.tmp 33)⟩])
 .ret)))⟩
theorem ok12 : compF Tryd.prog Tryd.f12 = some c12 := by kernel_rfl
def c13 : CF := ⟨74, [.tmp 4, .tmp 5, .tmp 6],
 (.seq (.ops [⟨some 4, none, .mov (.const (.slice none 0 0))⟩,
 ⟨some 5, none, .mov (.const (.int .i64 0))⟩,
 ⟨some 6, none, .mov (.const (.int .i64 0))⟩])
 (.seq (.ops [⟨some 16, none, .mov (.tmp 0)⟩,
 ⟨some 17, none, .call (.func 18) [(.tmp 16)]⟩,
 ⟨some 15, none, .mov (.tmp 17)⟩,
 ⟨some 18, none, .ext (.tmp 15) 0⟩,
 ⟨some 19, none, .ext (.tmp 15) 1⟩,
 ⟨some 7, none, .newz [(.string ⟨#[]⟩), (.int .i64 0), (.bool false), .nilFunc]⟩,
 ⟨none, none, .st 4 (.tmp 7) (.tmp 18)⟩,
 ⟨some 8, none, .mov (.tmp 19)⟩])
 (.seq (.seq (.ops [⟨some 20, none, .mov (.tmp 8)⟩,
 ⟨some 21, none, .un .not (.tmp 20)⟩])
 (.cond (.tmp 21)
 (.seq (.ops [⟨some 4, none, .mov (.const (.slice none 0 0))⟩,
 ⟨some 5, none, .mov (.const (.int .i64 0))⟩,
 ⟨some 6, none, .mov (.const (.int .i64 4))⟩])
 .ret)
 .skip))
 (.seq (.seq (.ops [⟨some 22, none, .mov (.tmp 1)⟩,
 ⟨some 23, none, .lnl (.tmp 22)⟩,
 ⟨some 24, none, .mov (.const (.int .i64 0))⟩])
 (.block 0 (.loop (.seq (.ops [⟨some 25, none, .bin .lss (.tmp 24) (.tmp 23)⟩])
 (.seq (.cond (.tmp 25)
 .skip
 (.exit 0))
 (.seq (.block 1 (.seq (.ops [⟨some 26, none, .mov (.tmp 24)⟩,
 ⟨some 27, none, .iad 1 (.tmp 22) (.tmp 24)⟩,
 ⟨some 28, none, .ld1 (.tmp 27)⟩,
 ⟨some 9, none, .mov (.tmp 26)⟩,
 ⟨some 10, none, .mov (.tmp 28)⟩])
 (.seq (.ops [⟨some 29, none, .mov (.tmp 10)⟩,
 ⟨some 30, none, .call (.func 19) [(.tmp 29)]⟩,
 ⟨some 11, none, .mov (.tmp 30)⟩])
 (.seq (.ops [⟨some 31, none, .mov (.tmp 11)⟩,
 ⟨some 32, none, .bin .neq (.tmp 31) (.const (.int .i64 0))⟩])
 (.cond (.tmp 32)
 (.seq (.ops [⟨some 33, none, .mov (.tmp 9)⟩,
 ⟨some 34, none, .mov (.tmp 11)⟩,
 ⟨some 4, none, .mov (.const (.slice none 0 0))⟩,
 ⟨some 5, none, .mov (.tmp 33)⟩,
 ⟨some 6, none, .mov (.tmp 34)⟩])
 .ret)
 .skip)))))
 (.ops [⟨some 35, none, .bin .add (.tmp 24) (.const (.int .i64 1))⟩,
 ⟨some 24, none, .mov (.tmp 35)⟩])))))))
 (.seq (.seq (.ops [⟨some 36, none, .mov (.tmp 1)⟩,
 ⟨some 37, none, .lnl (.tmp 36)⟩,
 ⟨some 38, none, .fad (.tmp 7) 1⟩,
 ⟨some 39, none, .ld1 (.tmp 38)⟩,
 ⟨some 40, none, .bin .neq (.tmp 37) (.tmp 39)⟩])
 (.cond (.tmp 40)
 (.seq (.ops [⟨some 4, none, .mov (.const (.slice none 0 0))⟩,
 ⟨some 5, none, .mov (.const (.int .i64 0))⟩,
 ⟨some 6, none, .mov (.const (.int .i64 18))⟩])
 .ret)
 .skip))
 (.seq (.ops [⟨some 41, none, .mov (.tmp 1)⟩,
 ⟨some 42, none, .agg [(.slice none 0 0), (.int .i64 0), (.int .i64 0)] [(0, 1, (.tmp 41))]⟩,
 ⟨some 12, none, .newz [(.slice none 0 0), (.int .i64 0), (.int .i64 0)]⟩,
 ⟨none, none, .st 3 (.tmp 12) (.tmp 42)⟩])
 (.seq (.seq (.ops [⟨some 43, none, .fad (.tmp 7) 2⟩,
 ⟨some 44, none, .ld1 (.tmp 43)⟩])
 (.cond (.tmp 44)
 (.seq (.seq (.ops [⟨some 45, none, .mov (.tmp 1)⟩,
 ⟨some 46, none, .call (.func 20) [(.tmp 45), (.func 21)]⟩,
 ⟨some 13, none, .mov (.tmp 46)⟩])
 (.seq (.ops [⟨some 47, none, .mov (.tmp 13)⟩,
 ⟨some 48, none, .bin .geq (.tmp 47) (.const (.int .i64 0))⟩])
 (.cond (.tmp 48)
 (.seq (.ops [⟨some 49, none, .mov (.tmp 13)⟩,
 ⟨some 4, none, .mov (.const (.slice none 0 0))⟩,
 ⟨some 5, none, .mov (.tmp 49)⟩,
 ⟨some 6, none, .mov (.const (.int .i64 19))⟩])
 .ret)
 .skip)))
 (.draw [⟨some 50, none, .mov (.tmp 1)⟩,
 ⟨some 51, none, .iad 1 (.tmp 50) (.const (.int .i64 0))⟩,
 ⟨some 52, none, .ld1 (.tmp 51)⟩,
 ⟨some 53, none, .iad 6 (.tmp 52) (.const (.int .i64 0))⟩,
 ⟨some 54, none, .fad (.tmp 53) 2⟩,
 ⟨some 55, none, .ld1 (.tmp 54)⟩,
 ⟨some 56, none, .mov (.tmp 1)⟩,
 ⟨some 57, none, .iad 1 (.tmp 56) (.const (.int .i64 1))⟩,
 ⟨some 58, none, .ld1 (.tmp 57)⟩,
 ⟨some 59, none, .iad 6 (.tmp 58) (.const (.int .i64 0))⟩,
 ⟨some 60, none, .fad (.tmp 59) 2⟩,
 ⟨some 61, none, .ld1 (.tmp 60)⟩,
 ⟨some 62, none, .fad (.tmp 12) 1⟩,
 ⟨none, none, .st 1 (.tmp 62) (.tmp 55)⟩,
 ⟨some 63, none, .fad (.tmp 12) 2⟩,
 ⟨none, none, .st 1 (.tmp 63) (.tmp 61)⟩] [(0, 6), (1, 6), (2, 6), (3, 6), (4, 6), (5, 6), (0, 7), (1, 7), (2, 7), (3, 7), (4, 7), (5, 7), (0, 8), (1, 8), (2, 8), (3, 8), (4, 8), (5, 8), (0, 9), (1, 9), (2, 9), (3, 9), (4, 9), (5, 9), (0, 10), (1, 10), (2, 10), (3, 10), (4, 10), (5, 10), (0, 11), (1, 11), (2, 11), (3, 11), (4, 11), (5, 11), (6, 12), (7, 12), (8, 12), (9, 12), (10, 12), (11, 12), (6, 13), (7, 13), (8, 13), (9, 13), (10, 13), (11, 13)]))
 .skip))
 (.seq (.ops [⟨some 64, none, .fad (.tmp 7) 3⟩,
 ⟨some 65, none, .ld1 (.tmp 64)⟩,
 ⟨some 66, none, .ld 3 (.tmp 12)⟩,
 ⟨some 67, none, .call (.tmp 65) [(.tmp 66)]⟩,
 ⟨some 14, none, .newz [(.slice none 0 0), (.int .i64 0), (.int .i64 0)]⟩,
 ⟨none, none, .st 3 (.tmp 14) (.tmp 67)⟩])
 (.seq (.draw [⟨some 68, none, .fad (.tmp 14) 0⟩,
 ⟨some 69, none, .ld1 (.tmp 68)⟩,
 ⟨some 70, none, .fad (.tmp 14) 1⟩,
 ⟨some 71, none, .ld1 (.tmp 70)⟩,
 ⟨some 72, none, .fad (.tmp 14) 2⟩,
 ⟨some 73, none, .ld1 (.tmp 72)⟩,
 ⟨some 4, none, .mov (.tmp 69)⟩,
 ⟨some 5, none, .mov (.tmp 71)⟩,
 ⟨some 6, none, .mov (.tmp 73)⟩] [(0, 2), (1, 2), (0, 3), (1, 3), (0, 4), (1, 4), (2, 4), (3, 4), (0, 5), (1, 5), (2, 5), (3, 5), (2, 6), (3, 6), (4, 6), (5, 6), (4, 7), (5, 7)])
 .ret)))))))))⟩
theorem ok13 : compF Tryd.prog Tryd.f13 = some c13 := by kernel_rfl
def c15 : CF := ⟨6, [.tmp 2],
 (.seq (.ops [⟨some 2, none, .mov (.const (.slice none 0 0))⟩])
 (.seq (.ops [⟨some 3, none, .mov (.tmp 0)⟩,
 ⟨some 4, none, .agg [(.int .i64 0), (.int .i64 0), (.int .i64 0), (.string ⟨#[]⟩), (.int .i32 0), (.int .i32 0)] [(0, 1, (.const (.int .i64 2))), (2, 1, (.tmp 3))]⟩,
 ⟨some 5, none, .lits [(.int .i64 0), (.int .i64 0), (.int .i64 0), (.string ⟨#[]⟩), (.int .i32 0), (.int .i32 0)] 1 [(0, 6, (.tmp 4))]⟩,
 ⟨some 2, none, .mov (.tmp 5)⟩])
 .ret))⟩
theorem ok15 : compF Tryd.prog Tryd.f15 = some c15 := by kernel_rfl
def c17 : CF := ⟨6, [.tmp 2],
 (.seq (.ops [⟨some 2, none, .mov (.const (.slice none 0 0))⟩])
 (.seq (.ops [⟨some 3, none, .mov (.tmp 0)⟩,
 ⟨some 4, none, .agg [(.int .i64 0), (.int .i64 0), (.int .i64 0), (.string ⟨#[]⟩), (.int .i32 0), (.int .i32 0)] [(0, 1, (.const (.int .i64 3))), (3, 1, (.tmp 3))]⟩,
 ⟨some 5, none, .lits [(.int .i64 0), (.int .i64 0), (.int .i64 0), (.string ⟨#[]⟩), (.int .i32 0), (.int .i32 0)] 1 [(0, 6, (.tmp 4))]⟩,
 ⟨some 2, none, .mov (.tmp 5)⟩])
 .ret))⟩
theorem ok17 : compF Tryd.prog Tryd.f17 = some c17 := by kernel_rfl
def c18 : CF := ⟨29, [.cells 2 4, .tmp 3],
 (.seq (.ops [⟨some 2, none, .newz [(.string ⟨#[]⟩), (.int .i64 0), (.bool false), .nilFunc]⟩,
 ⟨some 3, none, .mov (.const (.bool false))⟩])
 (.seq (.ops [⟨some 9, none, .mkm⟩,
 ⟨some 4, none, .mov (.tmp 9)⟩])
 (.seq (.seq (.ops [⟨some 10, none, .call (.func 23) []⟩,
 ⟨some 11, none, .lnl (.tmp 10)⟩,
 ⟨some 12, none, .mov (.const (.int .i64 0))⟩])
 (.block 0 (.loop (.seq (.ops [⟨some 13, none, .bin .lss (.tmp 12) (.tmp 11)⟩])
 (.seq (.cond (.tmp 13)
 .skip
 (.exit 0))
 (.seq (.block 1 (.seq (.ops [⟨some 14, none, .iad 4 (.tmp 10) (.tmp 12)⟩,
 ⟨some 15, none, .ld 4 (.tmp 14)⟩,
 ⟨some 6, none, .newz [(.string ⟨#[]⟩), (.int .i64 0), (.bool false), .nilFunc]⟩,
 ⟨none, none, .st 4 (.tmp 6) (.tmp 15)⟩])
 (.ops [⟨some 16, none, .mov (.tmp 4)⟩,
 ⟨some 17, none, .fad (.tmp 6) 0⟩,
 ⟨some 18, none, .ld1 (.tmp 17)⟩,
 ⟨some 19, none, .ld 4 (.tmp 6)⟩,
 ⟨none, none, .mup .string (.tmp 16) (.tmp 18) (.tmp 19)⟩])))
 (.ops [⟨some 20, none, .bin .add (.tmp 12) (.const (.int .i64 1))⟩,
 ⟨some 12, none, .mov (.tmp 20)⟩])))))))
 (.seq (.ops [⟨some 22, none, .mov (.tmp 4)⟩,
 ⟨some 23, none, .mov (.tmp 0)⟩,
 ⟨some 24, none, .lkp .string (.agg #[(.string ⟨#[]⟩), (.int .i64 0), (.bool false), .nilFunc]) (.tmp 22) (.tmp 23) true⟩,
 ⟨some 21, none, .mov (.tmp 24)⟩,
 ⟨some 25, none, .ext (.tmp 21) 0⟩,
 ⟨some 26, none, .ext (.tmp 21) 1⟩,
 ⟨some 7, none, .newz [(.string ⟨#[]⟩), (.int .i64 0), (.bool false), .nilFunc]⟩,
 ⟨none, none, .st 4 (.tmp 7) (.tmp 25)⟩,
 ⟨some 8, none, .mov (.tmp 26)⟩])
 (.seq (.ops [⟨some 27, none, .ld 4 (.tmp 7)⟩,
 ⟨some 28, none, .mov (.tmp 8)⟩,
 ⟨none, none, .st 4 (.tmp 2) (.tmp 27)⟩,
 ⟨some 3, none, .mov (.tmp 28)⟩])
 .ret)))))⟩
theorem ok18 : compF Tryd.prog Tryd.f18 = some c18 := by kernel_rfl
def c19 : CF := ⟨22, [.tmp 2],
 (.seq (.ops [⟨some 2, none, .mov (.const (.int .i64 0))⟩])
 (.seq (.seq (.ops [⟨some 8, none, .mov (.tmp 0)⟩,
 ⟨some 9, none, .call (.func 24) [(.tmp 8), (.const (.bool false))]⟩,
 ⟨some 7, none, .mov (.tmp 9)⟩,
 ⟨some 10, none, .ext (.tmp 7) 0⟩,
 ⟨some 11, none, .ext (.tmp 7) 1⟩,
 ⟨some 3, none, .mov (.tmp 10)⟩,
 ⟨some 4, none, .mov (.tmp 11)⟩])
 (.seq (.ops [⟨some 12, none, .mov (.tmp 4)⟩,
 ⟨some 13, none, .bin .neq (.tmp 12) (.const (.int .i64 0))⟩])
 (.cond (.tmp 13)
 (.seq (.ops [⟨some 14, none, .mov (.tmp 4)⟩,
 ⟨some 2, none, .mov (.tmp 14)⟩])
 .ret)
 .skip)))
 (.seq (.seq (.ops [⟨some 16, none, .mov (.tmp 0)⟩,
 ⟨some 17, none, .call (.func 25) [(.tmp 16), (.const (.int .i64 0))]⟩,
 ⟨some 15, none, .mov (.tmp 17)⟩,
 ⟨some 18, none, .ext (.tmp 15) 0⟩,
 ⟨some 19, none, .ext (.tmp 15) 1⟩,
 ⟨some 5, none, .mov (.tmp 18)⟩,
 ⟨some 6, none, .mov (.tmp 19)⟩])
 (.seq (.ops [⟨some 20, none, .mov (.tmp 5)⟩,
 ⟨some 21, none, .un .not (.tmp 20)⟩])
 (.cond (.tmp 21)
 (.seq (.ops [⟨some 2, none, .mov (.const (.int .i64 6))⟩])
 .ret)
 .skip)))
 (.seq (.ops [⟨some 2, none, .mov (.const (.int .i64 0))⟩])
 .ret))))⟩
theorem ok19 : compF Tryd.prog Tryd.f19 = some c19 := by kernel_rfl
def c20 : CF := ⟨19, [.tmp 4],
 (.seq (.ops [⟨some 4, none, .mov (.const (.int .i64 0))⟩])
 (.seq (.seq (.ops [⟨some 6, none, .mov (.tmp 0)⟩,
 ⟨some 7, none, .lnl (.tmp 6)⟩,
 ⟨some 8, none, .mov (.const (.int .i64 0))⟩])
 (.block 0 (.loop (.seq (.ops [⟨some 9, none, .bin .lss (.tmp 8) (.tmp 7)⟩])
 (.seq (.cond (.tmp 9)
 .skip
 (.exit 0))
 (.seq (.block 1 (.seq (.ops [⟨some 10, none, .mov (.tmp 8)⟩,
 ⟨some 5, none, .mov (.tmp 10)⟩])
 (.seq (.ops [⟨some 11, none, .mov (.tmp 1)⟩,
 ⟨some 12, none, .mov (.tmp 0)⟩,
 ⟨some 13, none, .mov (.tmp 5)⟩,
 ⟨some 14, none, .iad 1 (.tmp 12) (.tmp 13)⟩,
 ⟨some 15, none, .ld1 (.tmp 14)⟩,
 ⟨some 16, none, .call (.tmp 11) [(.tmp 15)]⟩])
 (.cond (.tmp 16)
 (.seq (.ops [⟨some 17, none, .mov (.tmp 5)⟩,
 ⟨some 4, none, .mov (.tmp 17)⟩])
 .ret)
 .skip))))
 (.ops [⟨some 18, none, .bin .add (.tmp 8) (.const (.int .i64 1))⟩,
 ⟨some 8, none, .mov (.tmp 18)⟩])))))))
 (.seq (.ops [⟨some 4, none, .mov (.const (.int .i64 (-1)))⟩])
 .ret)))⟩
theorem ok20 : compF Tryd.prog Tryd.f20 = some c20 := by kernel_rfl
def c21 : CF := ⟨8, [.tmp 2],
 (.seq (.ops [⟨some 2, none, .mov (.const (.bool false))⟩])
 (.seq (.ops [⟨some 3, none, .mov (.tmp 0)⟩,
 ⟨some 4, none, .iad 6 (.tmp 3) (.const (.int .i64 0))⟩,
 ⟨some 5, none, .fad (.tmp 4) 0⟩,
 ⟨some 6, none, .ld1 (.tmp 5)⟩,
 ⟨some 7, none, .bin .neq (.tmp 6) (.const (.int .i64 1))⟩,
 ⟨some 2, none, .mov (.tmp 7)⟩])
 .ret))⟩
theorem ok21 : compF Tryd.prog Tryd.f21 = some c21 := by kernel_rfl
def c22 : CF := ⟨19, [.tmp 2],
 (.seq (.ops [⟨some 2, none, .mov (.const (.int .i64 0))⟩])
 (.seq (.seq (.ops [⟨some 3, none, .mov (.tmp 0)⟩,
 ⟨some 4, none, .iad 6 (.tmp 3) (.const (.int .i64 0))⟩,
 ⟨some 5, none, .fad (.tmp 4) 0⟩,
 ⟨some 6, none, .ld1 (.tmp 5)⟩,
 ⟨some 7, none, .bin .eql (.tmp 6) (.const (.int .i64 8))⟩,
 ⟨some 8, none, .mov (.tmp 7)⟩,
 ⟨some 9, (some (8, false)), .mov (.tmp 0)⟩,
 ⟨some 10, (some (8, false)), .iad 6 (.tmp 9) (.const (.int .i64 0))⟩,
 ⟨some 11, (some (8, false)), .fad (.tmp 10) 0⟩,
 ⟨some 12, (some (8, false)), .ld1 (.tmp 11)⟩,
 ⟨some 13, (some (8, false)), .bin .eql (.tmp 12) (.const (.int .i64 6))⟩,
 ⟨some 14, none, .pick (.tmp 8) (.const (.bool true)) (.tmp 13)⟩])
 (.cond (.tmp 14)
 (.seq (.ops [⟨some 2, none, .mov (.const (.int .i64 6))⟩])
 .ret)
 .skip))
 (.seq (.ops [⟨some 15, none, .mov (.tmp 0)⟩,
 ⟨some 16, none, .iad 6 (.tmp 15) (.const (.int .i64 0))⟩,
 ⟨some 17, none, .fad (.tmp 16) 0⟩,
 ⟨some 18, none, .ld1 (.tmp 17)⟩,
 ⟨some 2, none, .mov (.tmp 18)⟩])
 .ret)))⟩
theorem ok22 : compF Tryd.prog Tryd.f22 = some c22 := by kernel_rfl
def c23 : CF := ⟨27, [.tmp 0],
 (.seq (.ops [⟨some 0, none, .mov (.const (.slice none 0 0))⟩])
 (.seq (.ops [⟨some 1, none, .mov (.func 26)⟩])
 (.seq (.ops [⟨some 2, none, .agg [(.string ⟨#[]⟩), (.int .i64 0), (.bool false), .nilFunc] [(0, 1, (.const (.string ⟨#[43]⟩))), (1, 1, (.const (.int .i64 2))), (2, 1, (.const (.bool true))), (3, 1, (.func 29))]⟩,
 ⟨some 3, none, .agg [(.string ⟨#[]⟩), (.int .i64 0), (.bool false), .nilFunc] [(0, 1, (.const (.string ⟨#[45]⟩))), (1, 1, (.const (.int .i64 2))), (2, 1, (.const (.bool true))), (3, 1, (.func 30))]⟩,
 ⟨some 4, none, .agg [(.string ⟨#[]⟩), (.int .i64 0), (.bool false), .nilFunc] [(0, 1, (.const (.string ⟨#[42]⟩))), (1, 1, (.const (.int .i64 2))), (2, 1, (.const (.bool true))), (3, 1, (.func 31))]⟩,
 ⟨some 5, none, .agg [(.string ⟨#[]⟩), (.int .i64 0), (.bool false), .nilFunc] [(0, 1, (.const (.string ⟨#[113, 117, 111, 116, 105, 101, 110, 116]⟩))), (1, 1, (.const (.int .i64 2))), (2, 1, (.const (.bool true))), (3, 1, (.func 32))]⟩,
 ⟨some 6, none, .agg [(.string ⟨#[]⟩), (.int .i64 0), (.bool false), .nilFunc] [(0, 1, (.const (.string ⟨#[114, 101, 109, 97, 105, 110, 100, 101, 114]⟩))), (1, 1, (.const (.int .i64 2))), (2, 1, (.const (.bool true))), (3, 1, (.func 33))]⟩,
 ⟨some 7, none, .agg [(.string ⟨#[]⟩), (.int .i64 0), (.bool false), .nilFunc] [(0, 1, (.const (.string ⟨#[61]⟩))), (1, 1, (.const (.int .i64 2))), (2, 1, (.const (.bool true))), (3, 1, (.func 34))]⟩,
 ⟨some 8, none, .agg [(.string ⟨#[]⟩), (.int .i64 0), (.bool false), .nilFunc] [(0, 1, (.const (.string ⟨#[60]⟩))), (1, 1, (.const (.int .i64 2))), (2, 1, (.const (.bool true))), (3, 1, (.func 35))]⟩,
 ⟨some 9, none, .agg [(.string ⟨#[]⟩), (.int .i64 0), (.bool false), .nilFunc] [(0, 1, (.const (.string ⟨#[99, 111, 110, 115]⟩))), (1, 1, (.const (.int .i64 2))), (2, 1, (.const (.bool false))), (3, 1, (.func 36))]⟩,
 ⟨some 10, none, .agg [(.string ⟨#[]⟩), (.int .i64 0), (.bool false), .nilFunc] [(0, 1, (.const (.string ⟨#[99, 97, 114]⟩))), (1, 1, (.const (.int .i64 1))), (2, 1, (.const (.bool false))), (3, 1, (.func 37))]⟩,
 ⟨some 11, none, .agg [(.string ⟨#[]⟩), (.int .i64 0), (.bool false), .nilFunc] [(0, 1, (.const (.string ⟨#[99, 100, 114]⟩))), (1, 1, (.const (.int .i64 1))), (2, 1, (.const (.bool false))), (3, 1, (.func 39))]⟩,
 ⟨some 12, none, .mov (.tmp 1)⟩,
 ⟨some 13, none, .call (.tmp 12) [(.const (.string ⟨#[110, 117, 108, 108, 63]⟩)), (.const (.int .i64 4))]⟩,
 ⟨some 14, none, .mov (.tmp 1)⟩,
 ⟨some 15, none, .call (.tmp 14) [(.const (.string ⟨#[112, 97, 105, 114, 63]⟩)), (.const (.int .i64 5))]⟩,
 ⟨some 16, none, .mov (.tmp 1)⟩,
 ⟨some 17, none, .call (.tmp 16) [(.const (.string ⟨#[110, 117, 109, 98, 101, 114, 63]⟩)), (.const (.int .i64 1))]⟩,
 ⟨some 18, none, .mov (.tmp 1)⟩,
 ⟨some 19, none, .call (.tmp 18) [(.const (.string ⟨#[98, 111, 111, 108, 101, 97, 110, 63]⟩)), (.const (.int .i64 2))]⟩,
 ⟨some 20, none, .mov (.tmp 1)⟩,
 ⟨some 21, none, .call (.tmp 20) [(.const (.string ⟨#[115, 121, 109, 98, 111, 108, 63]⟩)), (.const (.int .i64 3))]⟩,
 ⟨some 22, none, .mov (.tmp 1)⟩,
 ⟨some 23, none, .call (.tmp 22) [(.const (.string ⟨#[112, 114, 111, 99, 101, 100, 117, 114, 101, 63]⟩)), (.const (.int .i64 6))]⟩,
 ⟨some 24, none, .agg [(.string ⟨#[]⟩), (.int .i64 0), (.bool false), .nilFunc] [(0, 1, (.const (.string ⟨#[101, 113, 63]⟩))), (1, 1, (.const (.int .i64 2))), (2, 1, (.const (.bool false))), (3, 1, (.func 40))]⟩,
 ⟨some 25, none, .agg [(.string ⟨#[]⟩), (.int .i64 0), (.bool false), .nilFunc] [(0, 1, (.const (.string ⟨#[110, 111, 116]⟩))), (1, 1, (.const (.int .i64 1))), (2, 1, (.const (.bool false))), (3, 1, (.func 41))]⟩,
 ⟨some 26, none, .lits [(.string ⟨#[]⟩), (.int .i64 0), (.bool false), .nilFunc, (.string ⟨#[]⟩), (.int .i64 0), (.bool false), .nilFunc, (.string ⟨#[]⟩), (.int .i64 0), (.bool false), .nilFunc, (.string ⟨#[]⟩), (.int .i64 0), (.bool false), .nilFunc, (.string ⟨#[]⟩), (.int .i64 0), (.bool false), .nilFunc, (.string ⟨#[]⟩), (.int .i64 0), (.bool false), .nilFunc, (.string ⟨#[]⟩), (.int .i64 0), (.bool false), .nilFunc, (.string ⟨#[]⟩), (.int .i64 0), (.bool false), .nilFunc, (.string ⟨#[]⟩), (.int .i64 0), (.bool false), .nilFunc, (.string ⟨#[]⟩), (.int .i64 0), (.bool false), .nilFunc, (.string ⟨#[]⟩), (.int .i64 0), (.bool false), .nilFunc, (.string ⟨#[]⟩), (.int .i64 0), (.bool false), .nilFunc, (.string ⟨#[]⟩), (.int .i64 0), (.bool false), .nilFunc, (.string ⟨#[]⟩), (.int .i64 0), (.bool false), .nilFunc, (.string ⟨#[]⟩), (.int .i64 0), (.bool false), .nilFunc, (.string ⟨#[]⟩), (.int .i64 0), (.bool false), .nilFunc, (.string ⟨#[]⟩), (.int .i64 0), (.bool false), .nilFunc, (.string ⟨#[]⟩), (.int .i64 0), (.bool false), .nilFunc] 18 [(0, 4, (.tmp 2)), (4, 4, (.tmp 3)), (8, 4, (.tmp 4)), (12, 4, (.tmp 5)), (16, 4, (.tmp 6)), (20, 4, (.tmp 7)), (24, 4, (.tmp 8)), (28, 4, (.tmp 9)), (32, 4, (.tmp 10)), (36, 4, (.tmp 11)), (40, 4, (.tmp 13)), (44, 4, (.tmp 15)), (48, 4, (.tmp 17)), (52, 4, (.tmp 19)), (56, 4, (.tmp 21)), (60, 4, (.tmp 23)), (64, 4, (.tmp 24)), (68, 4, (.tmp 25))]⟩,
 ⟨some 0, none, .mov (.tmp 26)⟩])
 .ret)))⟩
theorem ok23 : compF Tryd.prog Tryd.f23 = some c23 := by kernel_rfl
def c24 : CF := ⟨128, [.tmp 4, .tmp 5],
 (.seq (.ops [⟨some 4, none, .mov (.const (.int .i64 0))⟩,
 ⟨some 5, none, .mov (.const (.int .i64 0))⟩])
 (.seq (.block 0 (.seq (.ops [⟨some 15, none, .mov (.tmp 0)⟩,
 ⟨some 16, none, .lnl (.tmp 15)⟩,
 ⟨some 17, none, .bin .eql (.tmp 16) (.const (.int .i64 0))⟩,
 ⟨some 14, none, .mov (.tmp 17)⟩])
 (.cond (.tmp 14)
 (.seq (.ops [⟨some 4, none, .mov (.const (.int .i64 0))⟩,
 ⟨some 5, none, .mov (.const (.int .i64 6))⟩])
 .ret)
 (.seq (.ops [⟨some 19, none, .mov (.tmp 0)⟩,
 ⟨some 20, none, .lnl (.tmp 19)⟩,
 ⟨some 21, none, .bin .gtr (.tmp 20) (.const (.int .i64 2000))⟩,
 ⟨some 18, none, .mov (.tmp 21)⟩])
 (.cond (.tmp 18)
 (.seq (.ops [⟨some 4, none, .mov (.const (.int .i64 0))⟩,
 ⟨some 5, none, .mov (.const (.int .i64 3))⟩])
 .ret)
 .skip)))))
 (.seq (.ops [⟨some 22, none, .lits [(.int .i64 0)] 1 [(0, 1, (.const (.int .i64 1)))]⟩,
 ⟨some 6, none, .mov (.tmp 22)⟩])
 (.seq (.seq (.ops [⟨some 23, none, .mov (.tmp 0)⟩,
 ⟨some 24, none, .lnl (.tmp 23)⟩,
 ⟨some 25, none, .mov (.const (.int .i64 0))⟩])
 (.block 1 (.loop (.seq (.ops [⟨some 26, none, .bin .lss (.tmp 25) (.tmp 24)⟩])
 (.seq (.cond (.tmp 26)
 .skip
 (.exit 1))
 (.seq (.block 2 (.seq (.ops [⟨some 27, none, .mov (.tmp 25)⟩,
 ⟨some 28, none, .iad 6 (.tmp 23) (.tmp 25)⟩,
 ⟨some 29, none, .ld 6 (.tmp 28)⟩,
 ⟨some 8, none, .newz [(.int .i64 0), (.int .i64 0), (.int .i64 0), (.string ⟨#[]⟩), (.int .i32 0), (.int .i32 0)]⟩,
 ⟨some 7, none, .mov (.tmp 27)⟩,
 ⟨none, none, .st 6 (.tmp 8) (.tmp 29)⟩])
 (.seq (.block 3 (.loop (.seq (.seq (.ops [⟨some 30, none, .mov (.tmp 6)⟩,
 ⟨some 31, none, .lnl (.tmp 30)⟩,
 ⟨some 32, none, .bin .gtr (.tmp 31) (.const (.int .i64 0))⟩,
 ⟨some 33, none, .mov (.tmp 32)⟩,
 ⟨some 34, (some (33, true)), .mov (.tmp 6)⟩,
 ⟨some 35, (some (33, true)), .mov (.tmp 6)⟩,
 ⟨some 36, (some (33, true)), .lnl (.tmp 35)⟩,
 ⟨some 37, (some (33, true)), .bin .sub (.tmp 36) (.const (.int .i64 1))⟩,
 ⟨some 38, (some (33, true)), .iad 1 (.tmp 34) (.tmp 37)⟩,
 ⟨some 39, (some (33, true)), .ld1 (.tmp 38)⟩,
 ⟨some 40, (some (33, true)), .bin .eql (.tmp 39) (.const (.int .i64 0))⟩,
 ⟨some 41, none, .pick (.tmp 33) (.tmp 40) (.const (.bool false))⟩])
 (.cond (.tmp 41)
 .skip
 (.exit 3)))
 (.block 4 (.ops [⟨some 42, none, .mov (.tmp 6)⟩,
 ⟨some 43, none, .mov (.tmp 6)⟩,
 ⟨some 44, none, .lnl (.tmp 43)⟩,
 ⟨some 45, none, .bin .sub (.tmp 44) (.const (.int .i64 1))⟩,
 ⟨some 46, none, .sl 1 (.tmp 42) none (some (.tmp 45)) none⟩,
 ⟨some 6, none, .mov (.tmp 46)⟩])))))
 (.seq (.block 5 (.seq (.ops [⟨some 48, none, .mov (.tmp 6)⟩,
 ⟨some 49, none, .lnl (.tmp 48)⟩,
 ⟨some 50, none, .bin .eql (.tmp 49) (.const (.int .i64 0))⟩,
 ⟨some 51, none, .mov (.tmp 50)⟩,
 ⟨some 52, (some (51, false)), .fad (.tmp 8) 0⟩,
 ⟨some 53, (some (51, false)), .ld1 (.tmp 52)⟩,
 ⟨some 54, (some (51, false)), .bin .lss (.tmp 53) (.const (.int .i64 1))⟩,
 ⟨some 55, none, .pick (.tmp 51) (.const (.bool true)) (.tmp 54)⟩,
 ⟨some 56, none, .mov (.tmp 55)⟩,
 ⟨some 57, (some (56, false)), .fad (.tmp 8) 0⟩,
 ⟨some 58, (some (56, false)), .ld1 (.tmp 57)⟩,
 ⟨some 59, (some (56, false)), .bin .gtr (.tmp 58) (.const (.int .i64 12))⟩,
 ⟨some 60, none, .pick (.tmp 56) (.const (.bool true)) (.tmp 59)⟩,
 ⟨some 61, none, .mov (.tmp 60)⟩,
 ⟨some 62, (some (61, false)), .fad (.tmp 8) 1⟩,
 ⟨some 63, (some (61, false)), .ld1 (.tmp 62)⟩,
 ⟨some 64, (some (61, false)), .bin .lss (.tmp 63) (.const (.int .i64 0))⟩,
 ⟨some 65, none, .pick (.tmp 61) (.const (.bool true)) (.tmp 64)⟩,
 ⟨some 47, none, .mov (.tmp 65)⟩])
 (.cond (.tmp 47)
 (.seq (.ops [⟨some 66, none, .mov (.tmp 7)⟩,
 ⟨some 4, none, .mov (.tmp 66)⟩,
 ⟨some 5, none, .mov (.const (.int .i64 6))⟩])
 .ret)
 (.seq (.ops [⟨some 68, none, .mov (.tmp 6)⟩,
 ⟨some 69, none, .lnl (.tmp 68)⟩,
 ⟨some 70, none, .bin .gtr (.tmp 69) (.const (.int .i64 201))⟩,
 ⟨some 67, none, .mov (.tmp 70)⟩])
 (.cond (.tmp 67)
 (.seq (.ops [⟨some 71, none, .mov (.tmp 7)⟩,
 ⟨some 4, none, .mov (.tmp 71)⟩,
 ⟨some 5, none, .mov (.const (.int .i64 3))⟩])
 .ret)
 .skip)))))
 (.seq (.seq (.ops [⟨some 72, none, .ld 6 (.tmp 8)⟩,
 ⟨some 73, none, .call (.func 42) [(.tmp 72)]⟩,
 ⟨some 9, none, .mov (.tmp 73)⟩])
 (.seq (.ops [⟨some 74, none, .mov (.tmp 9)⟩,
 ⟨some 75, none, .bin .neq (.tmp 74) (.const (.int .i64 0))⟩])
 (.cond (.tmp 75)
 (.seq (.ops [⟨some 76, none, .mov (.tmp 7)⟩,
 ⟨some 77, none, .mov (.tmp 9)⟩,
 ⟨some 4, none, .mov (.tmp 76)⟩,
 ⟨some 5, none, .mov (.tmp 77)⟩])
 .ret)
 .skip)))
 (.seq (.seq (.ops [⟨some 78, none, .ld 6 (.tmp 8)⟩,
 ⟨some 79, none, .mov (.tmp 1)⟩,
 ⟨some 80, none, .call (.func 43) [(.tmp 78), (.tmp 79)]⟩,
 ⟨some 10, none, .mov (.tmp 80)⟩])
 (.seq (.ops [⟨some 81, none, .mov (.tmp 10)⟩,
 ⟨some 82, none, .bin .neq (.tmp 81) (.const (.int .i64 0))⟩])
 (.cond (.tmp 82)
 (.seq (.ops [⟨some 83, none, .mov (.tmp 7)⟩,
 ⟨some 84, none, .mov (.tmp 10)⟩,
 ⟨some 4, none, .mov (.tmp 83)⟩,
 ⟨some 5, none, .mov (.tmp 84)⟩])
 .ret)
 .skip)))
 (.seq (.ops [⟨some 85, none, .mov (.tmp 6)⟩,
 ⟨some 86, none, .mov (.tmp 6)⟩,
 ⟨some 87, none, .lnl (.tmp 86)⟩,
 ⟨some 88, none, .bin .sub (.tmp 87) (.const (.int .i64 1))⟩,
 ⟨some 89, none, .iad 1 (.tmp 85) (.tmp 88)⟩,
 ⟨some 90, none, .ld1 (.tmp 89)⟩,
 ⟨some 91, none, .bin .sub (.tmp 90) (.const (.int .i64 1))⟩,
 ⟨some 92, none, .iad 1 (.tmp 85) (.tmp 88)⟩,
 ⟨none, none, .st 1 (.tmp 92) (.tmp 91)⟩])
 (.ops [⟨some 93, none, .mov (.tmp 6)⟩,
 ⟨some 94, none, .fad (.tmp 8) 1⟩,
 ⟨some 95, none, .ld1 (.tmp 94)⟩,
 ⟨some 96, none, .lits [(.int .i64 0)] 1 [(0, 1, (.tmp 95))]⟩,
 ⟨some 97, none, .app 1 8 (.tmp 93) (.tmp 96)⟩,
 ⟨some 6, none, .mov (.tmp 97)⟩]))))))))
 (.ops [⟨some 98, none, .bin .add (.tmp 25) (.const (.int .i64 1))⟩,
 ⟨some 25, none, .mov (.tmp 98)⟩])))))))
 (.seq (.block 6 (.seq (.ops [⟨some 100, none, .mov (.tmp 6)⟩,
 ⟨some 101, none, .call (.func 44) [(.tmp 100)]⟩,
 ⟨some 102, none, .bin .gtr (.tmp 101) (.const (.int .i64 0))⟩,
 ⟨some 99, none, .mov (.tmp 102)⟩])
 (.cond (.tmp 99)
 (.seq (.ops [⟨some 103, none, .mov (.tmp 0)⟩,
 ⟨some 104, none, .lnl (.tmp 103)⟩,
 ⟨some 4, none, .mov (.tmp 104)⟩,
 ⟨some 5, none, .mov (.const (.int .i64 6))⟩])
 .ret)
 (.seq (.ops [⟨some 106, none, .mov (.tmp 0)⟩,
 ⟨some 107, none, .iad 6 (.tmp 106) (.const (.int .i64 0))⟩,
 ⟨some 108, none, .fad (.tmp 107) 0⟩,
 ⟨some 109, none, .ld1 (.tmp 108)⟩,
 ⟨some 110, none, .bin .eql (.tmp 109) (.const (.int .i64 12))⟩,
 ⟨some 105, none, .mov (.tmp 110)⟩])
 (.cond (.tmp 105)
 (.seq (.ops [⟨some 4, none, .mov (.const (.int .i64 0))⟩,
 ⟨some 5, none, .mov (.const (.int .i64 6))⟩])
 .ret)
 .skip)))))
 (.seq (.ops [⟨some 111, none, .mov (.tmp 0)⟩,
 ⟨some 112, none, .call (.func 45) [(.tmp 111)]⟩,
 ⟨some 11, none, .mov (.tmp 112)⟩])
 (.seq (.seq (.ops [⟨some 113, none, .mov (.tmp 0)⟩,
 ⟨some 114, none, .lnl (.tmp 113)⟩,
 ⟨some 115, none, .mov (.const (.int .i64 0))⟩])
 (.block 7 (.loop (.seq (.ops [⟨some 116, none, .bin .lss (.tmp 115) (.tmp 114)⟩])
 (.seq (.cond (.tmp 116)
 .skip
 (.exit 7))
 (.seq (.block 8 (.seq (.ops [⟨some 117, none, .mov (.tmp 115)⟩,
 ⟨some 12, none, .mov (.tmp 117)⟩])
 (.seq (.ops [⟨some 118, none, .mov (.tmp 0)⟩,
 ⟨some 119, none, .mov (.tmp 11)⟩,
 ⟨some 120, none, .mov (.tmp 12)⟩,
 ⟨some 121, none, .mov (.tmp 1)⟩,
 ⟨some 122, none, .call (.func 46) [(.tmp 118), (.tmp 119), (.tmp 120), (.tmp 121)]⟩,
 ⟨some 13, none, .mov (.tmp 122)⟩])
 (.seq (.ops [⟨some 123, none, .mov (.tmp 13)⟩,
 ⟨some 124, none, .bin .neq (.tmp 123) (.const (.int .i64 0))⟩])
 (.cond (.tmp 124)
 (.seq (.ops [⟨some 125, none, .mov (.tmp 12)⟩,
 ⟨some 126, none, .mov (.tmp 13)⟩,
 ⟨some 4, none, .mov (.tmp 125)⟩,
 ⟨some 5, none, .mov (.tmp 126)⟩])
 .ret)
 .skip)))))
 (.ops [⟨some 127, none, .bin .add (.tmp 115) (.const (.int .i64 1))⟩,
 ⟨some 115, none, .mov (.tmp 127)⟩])))))))
 (.seq (.ops [⟨some 4, none, .mov (.const (.int .i64 0))⟩,
 ⟨some 5, none, .mov (.const (.int .i64 0))⟩])
 .ret))))))))⟩
theorem ok24 : compF Tryd.prog Tryd.f24 = some c24 := by kernel_rfl
def c25 : CF := ⟨19, [.tmp 4, .tmp 5],
 (.seq (.ops [⟨some 4, none, .mov (.const (.bool false))⟩,
 ⟨some 5, none, .mov (.const (.int .i64 0))⟩])
 (.seq (.seq (.ops [⟨some 7, none, .mov (.tmp 0)⟩,
 ⟨some 8, none, .mov (.tmp 1)⟩,
 ⟨some 9, none, .call (.func 47) [(.tmp 7), (.tmp 8)]⟩,
 ⟨some 6, none, .mov (.tmp 9)⟩])
 (.seq (.ops [⟨some 10, none, .mov (.tmp 6)⟩,
 ⟨some 11, none, .bin .neq (.tmp 10) (.const (.int .i64 0))⟩])
 (.cond (.tmp 11)
 (.seq (.ops [⟨some 12, none, .mov (.tmp 6)⟩,
 ⟨some 4, none, .mov (.const (.bool false))⟩,
 ⟨some 5, none, .mov (.tmp 12)⟩])
 .ret)
 .skip)))
 (.seq (.ops [⟨some 13, none, .mov (.tmp 0)⟩,
 ⟨some 14, none, .mov (.tmp 1)⟩,
 ⟨some 15, none, .iad 6 (.tmp 13) (.tmp 14)⟩,
 ⟨some 16, none, .fad (.tmp 15) 0⟩,
 ⟨some 17, none, .ld1 (.tmp 16)⟩,
 ⟨some 18, none, .call (.func 48) [(.tmp 17)]⟩,
 ⟨some 4, none, .mov (.tmp 18)⟩,
 ⟨some 5, none, .mov (.const (.int .i64 0))⟩])
 .ret)))⟩
theorem ok25 : compF Tryd.prog Tryd.f25 = some c25 := by kernel_rfl
def c26 : CF := ⟨8, [.cells 4 4],
 (.seq (.ops [⟨some 3, none, .box (.tmp 1)⟩,
 ⟨some 4, none, .newz [(.string ⟨#[]⟩), (.int .i64 0), (.bool false), .nilFunc]⟩])
 (.seq (.ops [⟨some 5, none, .mov (.tmp 0)⟩,
 ⟨some 6, none, .fn 27 [] [(.tmp 3)]⟩,
 ⟨some 7, none, .agg [(.string ⟨#[]⟩), (.int .i64 0), (.bool false), .nilFunc] [(0, 1, (.tmp 5)), (1, 1, (.const (.int .i64 1))), (2, 1, (.const (.bool false))), (3, 1, (.tmp 6))]⟩,
 ⟨none, none, .st 4 (.tmp 4) (.tmp 7)⟩])
 .ret))⟩
theorem ok26 : compF Tryd.prog Tryd.f26 = some c26 := by kernel_rfl
def c27 : CF := ⟨12, [.cells 3 3],
 (.seq (.ops [⟨some 2, none, .box (.tmp 0)⟩,
 ⟨some 3, none, .newz [(.slice none 0 0), (.int .i64 0), (.int .i64 0)]⟩])
 (.seq (.draw [⟨some 4, none, .fad (.tmp 2) 0⟩,
 ⟨some 5, none, .ld1 (.tmp 4)⟩,
 ⟨some 6, none, .iad 1 (.tmp 5) (.const (.int .i64 0))⟩,
 ⟨some 7, none, .ld1 (.tmp 6)⟩,
 ⟨some 8, none, .call (.func 22) [(.tmp 7)]⟩,
 ⟨some 9, none, .ld1 (.tmp 1)⟩,
 ⟨some 10, none, .bin .eql (.tmp 8) (.tmp 9)⟩,
 ⟨some 11, none, .call (.func 28) [(.tmp 10)]⟩,
 ⟨none, none, .st 3 (.tmp 3) (.tmp 11)⟩] [(0, 5), (1, 5), (2, 5), (3, 5), (4, 5)])
 .ret))⟩
theorem ok27 : compF Tryd.prog Tryd.f27 = some c27 := by kernel_rfl
def c28 : CF := ⟨12, [.cells 2 3],
 (.seq (.ops [⟨some 2, none, .newz [(.slice none 0 0), (.int .i64 0), (.int .i64 0)]⟩])
 (.seq (.ops [⟨some 4, none, .agg [(.int .i64 0), (.int .i64 0), (.int .i64 0), (.string ⟨#[]⟩), (.int .i32 0), (.int .i32 0)] [(0, 1, (.const (.int .i64 2)))]⟩,
 ⟨some 5, none, .lits [(.int .i64 0), (.int .i64 0), (.int .i64 0), (.string ⟨#[]⟩), (.int .i32 0), (.int .i32 0)] 1 [(0, 6, (.tmp 4))]⟩,
 ⟨some 3, none, .mov (.tmp 5)⟩])
 (.seq (.seq (.ops [⟨some 6, none, .mov (.tmp 0)⟩])
 (.cond (.tmp 6)
 (.ops [⟨some 7, none, .mov (.tmp 3)⟩,
 ⟨some 8, none, .iad 6 (.tmp 7) (.const (.int .i64 0))⟩,
 ⟨some 9, none, .fad (.tmp 8) 2⟩,
 ⟨none, none, .st 1 (.tmp 9) (.const (.int .i64 1))⟩])
 .skip))
 (.seq (.ops [⟨some 10, none, .mov (.tmp 3)⟩,
 ⟨some 11, none, .agg [(.slice none 0 0), (.int .i64 0), (.int .i64 0)] [(0, 1, (.tmp 10))]⟩,
 ⟨none, none, .st 3 (.tmp 2) (.tmp 11)⟩])
 .ret))))⟩
theorem ok28 : compF Tryd.prog Tryd.f28 = some c28 := by kernel_rfl
def c29 : CF := ⟨26, [.cells 2 3],
 (.seq (.ops [⟨some 1, none, .box (.tmp 0)⟩,
 ⟨some 2, none, .newz [(.slice none 0 0), (.int .i64 0), (.int .i64 0)]⟩])
 (.seq (.ops [⟨some 4, none, .fad (.tmp 1) 1⟩,
 ⟨some 5, none, .ld1 (.tmp 4)⟩,
 ⟨some 6, none, .fad (.tmp 1) 2⟩,
 ⟨some 7, none, .ld1 (.tmp 6)⟩,
 ⟨some 8, none, .bin .add (.tmp 5) (.tmp 7)⟩,
 ⟨some 3, none, .mov (.tmp 8)⟩])
 (.seq (.ops [⟨some 9, none, .mov (.tmp 3)⟩,
 ⟨some 10, none, .fad (.tmp 1) 1⟩,
 ⟨some 11, none, .ld1 (.tmp 10)⟩,
 ⟨some 12, none, .bin .lss (.tmp 11) (.const (.int .i64 0))⟩,
 ⟨some 13, none, .fad (.tmp 1) 2⟩,
 ⟨some 14, none, .ld1 (.tmp 13)⟩,
 ⟨some 15, none, .bin .lss (.tmp 14) (.const (.int .i64 0))⟩,
 ⟨some 16, none, .eqb true (.tmp 12) (.tmp 15)⟩,
 ⟨some 17, none, .mov (.tmp 16)⟩,
 ⟨some 18, (some (17, false)), .mov (.tmp 3)⟩,
 ⟨some 19, (some (17, false)), .bin .lss (.tmp 18) (.const (.int .i64 0))⟩,
 ⟨some 20, (some (17, false)), .fad (.tmp 1) 1⟩,
 ⟨some 21, (some (17, false)), .ld1 (.tmp 20)⟩,
 ⟨some 22, (some (17, false)), .bin .lss (.tmp 21) (.const (.int .i64 0))⟩,
 ⟨some 23, (some (17, false)), .eqb false (.tmp 19) (.tmp 22)⟩,
 ⟨some 24, none, .pick (.tmp 17) (.const (.bool true)) (.tmp 23)⟩,
 ⟨some 25, none, .call (.func 49) [(.tmp 9), (.tmp 24)]⟩,
 ⟨none, none, .st 3 (.tmp 2) (.tmp 25)⟩])
 .ret)))⟩
theorem ok29 : compF Tryd.prog Tryd.f29 = some c29 := by kernel_rfl
def c30 : CF := ⟨26, [.cells 2 3],
 (.seq (.ops [⟨some 1, none, .box (.tmp 0)⟩,
 ⟨some 2, none, .newz [(.slice none 0 0), (.int .i64 0), (.int .i64 0)]⟩])
 (.seq (.ops [⟨some 4, none, .fad (.tmp 1) 1⟩,
 ⟨some 5, none, .ld1 (.tmp 4)⟩,
 ⟨some 6, none, .fad (.tmp 1) 2⟩,
 ⟨some 7, none, .ld1 (.tmp 6)⟩,
 ⟨some 8, none, .bin .sub (.tmp 5) (.tmp 7)⟩,
 ⟨some 3, none, .mov (.tmp 8)⟩])
 (.seq (.ops [⟨some 9, none, .mov (.tmp 3)⟩,
 ⟨some 10, none, .fad (.tmp 1) 1⟩,
 ⟨some 11, none, .ld1 (.tmp 10)⟩,
 ⟨some 12, none, .bin .lss (.tmp 11) (.const (.int .i64 0))⟩,
 ⟨some 13, none, .fad (.tmp 1) 2⟩,
 ⟨some 14, none, .ld1 (.tmp 13)⟩,
 ⟨some 15, none, .bin .lss (.tmp 14) (.const (.int .i64 0))⟩,
 ⟨some 16, none, .eqb false (.tmp 12) (.tmp 15)⟩,
 ⟨some 17, none, .mov (.tmp 16)⟩,
 ⟨some 18, (some (17, false)), .mov (.tmp 3)⟩,
 ⟨some 19, (some (17, false)), .bin .lss (.tmp 18) (.const (.int .i64 0))⟩,
 ⟨some 20, (some (17, false)), .fad (.tmp 1) 1⟩,
 ⟨some 21, (some (17, false)), .ld1 (.tmp 20)⟩,
 ⟨some 22, (some (17, false)), .bin .lss (.tmp 21) (.const (.int .i64 0))⟩,
 ⟨some 23, (some (17, false)), .eqb false (.tmp 19) (.tmp 22)⟩,
 ⟨some 24, none, .pick (.tmp 17) (.const (.bool true)) (.tmp 23)⟩,
 ⟨some 25, none, .call (.func 49) [(.tmp 9), (.tmp 24)]⟩,
 ⟨none, none, .st 3 (.tmp 2) (.tmp 25)⟩])
 .ret)))⟩
theorem ok30 : compF Tryd.prog Tryd.f30 = some c30 := by kernel_rfl
def c31 : CF := ⟨41, [.cells 2 3],
 (.seq (.ops [⟨some 1, none, .box (.tmp 0)⟩,
 ⟨some 2, none, .newz [(.slice none 0 0), (.int .i64 0), (.int .i64 0)]⟩])
 (.seq (.ops [⟨some 3, none, .mov (.func 50)⟩])
 (.seq (.ops [⟨some 4, none, .mov (.const (.int .u64 9223372036854775807))⟩])
 (.seq (.seq (.ops [⟨some 7, none, .fad (.tmp 1) 1⟩,
 ⟨some 8, none, .ld1 (.tmp 7)⟩,
 ⟨some 9, none, .bin .lss (.tmp 8) (.const (.int .i64 0))⟩,
 ⟨some 10, none, .fad (.tmp 1) 2⟩,
 ⟨some 11, none, .ld1 (.tmp 10)⟩,
 ⟨some 12, none, .bin .lss (.tmp 11) (.const (.int .i64 0))⟩,
 ⟨some 13, none, .eqb true (.tmp 9) (.tmp 12)⟩])
 (.cond (.tmp 13)
 (.ops [⟨some 14, none, .mov (.tmp 4)⟩,
 ⟨some 15, none, .bin .add (.tmp 14) (.const (.int .u64 1))⟩,
 ⟨some 4, none, .mov (.tmp 15)⟩])
 .skip))
 (.seq (.draw [⟨some 17, none, .mov (.tmp 3)⟩,
 ⟨some 18, none, .fad (.tmp 1) 1⟩,
 ⟨some 19, none, .ld1 (.tmp 18)⟩,
 ⟨some 20, none, .call (.tmp 17) [(.tmp 19)]⟩,
 ⟨some 21, none, .mov (.tmp 3)⟩,
 ⟨some 22, none, .fad (.tmp 1) 2⟩,
 ⟨some 23, none, .ld1 (.tmp 22)⟩,
 ⟨some 24, none, .call (.tmp 21) [(.tmp 23)]⟩,
 ⟨some 25, none, .call (.func 51) [(.tmp 20), (.tmp 24)]⟩,
 ⟨some 16, none, .mov (.tmp 25)⟩,
 ⟨some 26, none, .ext (.tmp 16) 0⟩,
 ⟨some 27, none, .ext (.tmp 16) 1⟩,
 ⟨some 5, none, .mov (.tmp 26)⟩,
 ⟨some 6, none, .mov (.tmp 27)⟩] [(0, 1), (0, 2), (0, 4), (1, 4), (2, 4), (3, 4), (0, 5), (1, 5), (2, 5), (3, 5), (4, 5), (0, 6), (1, 6), (2, 6), (3, 6), (4, 6), (10, 11), (11, 12)])
 (.seq (.ops [⟨some 28, none, .fad (.tmp 1) 1⟩,
 ⟨some 29, none, .ld1 (.tmp 28)⟩,
 ⟨some 30, none, .fad (.tmp 1) 2⟩,
 ⟨some 31, none, .ld1 (.tmp 30)⟩,
 ⟨some 32, none, .bin .mul (.tmp 29) (.tmp 31)⟩,
 ⟨some 33, none, .mov (.tmp 5)⟩,
 ⟨some 34, none, .bin .eql (.tmp 33) (.const (.int .u64 0))⟩,
 ⟨some 35, none, .mov (.tmp 34)⟩,
 ⟨some 36, (some (35, true)), .mov (.tmp 6)⟩,
 ⟨some 37, (some (35, true)), .mov (.tmp 4)⟩,
 ⟨some 38, (some (35, true)), .bin .leq (.tmp 36) (.tmp 37)⟩,
 ⟨some 39, none, .pick (.tmp 35) (.tmp 38) (.const (.bool false))⟩,
 ⟨some 40, none, .call (.func 49) [(.tmp 32), (.tmp 39)]⟩,
 ⟨none, none, .st 3 (.tmp 2) (.tmp 40)⟩])
 .ret))))))⟩
theorem ok31 : compF Tryd.prog Tryd.f31 = some c31 := by kernel_rfl
def c32 : CF := ⟨21, [.cells 2 3],
 (.seq (.ops [⟨some 1, none, .box (.tmp 0)⟩,
 ⟨some 2, none, .newz [(.slice none 0 0), (.int .i64 0), (.int .i64 0)]⟩])
 (.seq (.seq (.ops [⟨some 3, none, .fad (.tmp 1) 2⟩,
 ⟨some 4, none, .ld1 (.tmp 3)⟩,
 ⟨some 5, none, .bin .eql (.tmp 4) (.const (.int .i64 0))⟩])
 (.cond (.tmp 5)
 (.seq (.ops [⟨some 6, none, .agg [(.slice none 0 0), (.int .i64 0), (.int .i64 0)] [(1, 1, (.const (.int .i64 1))), (2, 1, (.const (.int .i64 21)))]⟩,
 ⟨none, none, .st 3 (.tmp 2) (.tmp 6)⟩])
 .ret)
 .skip))
 (.seq (.draw [⟨some 7, none, .fad (.tmp 1) 1⟩,
 ⟨some 8, none, .ld1 (.tmp 7)⟩,
 ⟨some 9, none, .fad (.tmp 1) 2⟩,
 ⟨some 10, none, .ld1 (.tmp 9)⟩,
 ⟨some 11, none, .bin .quo (.tmp 8) (.tmp 10)⟩,
 ⟨some 12, none, .fad (.tmp 1) 1⟩,
 ⟨some 13, none, .ld1 (.tmp 12)⟩,
 ⟨some 14, none, .bin .neq (.tmp 13) (.const (.int .i64 (-9223372036854775808)))⟩,
 ⟨some 15, none, .mov (.tmp 14)⟩,
 ⟨some 16, (some (15, false)), .fad (.tmp 1) 2⟩,
 ⟨some 17, (some (15, false)), .ld1 (.tmp 16)⟩,
 ⟨some 18, (some (15, false)), .bin .neq (.tmp 17) (.const (.int .i64 (-1)))⟩,
 ⟨some 19, none, .pick (.tmp 15) (.const (.bool true)) (.tmp 18)⟩,
 ⟨some 20, none, .call (.func 49) [(.tmp 11), (.tmp 19)]⟩,
 ⟨none, none, .st 3 (.tmp 2) (.tmp 20)⟩] [(0, 2), (1, 2), (0, 3), (1, 3), (0, 5), (1, 5), (2, 5), (3, 5), (4, 5), (0, 6), (1, 6), (2, 6), (3, 6), (4, 6), (0, 7), (1, 7), (2, 7), (3, 7), (4, 7), (0, 8), (1, 8), (2, 8), (3, 8), (4, 8), (0, 9), (1, 9), (2, 9), (3, 9), (4, 9), (0, 10), (1, 10), (2, 10), (3, 10), (4, 10), (0, 11), (1, 11), (2, 11), (3, 11), (4, 11), (0, 12), (1, 12), (2, 12), (3, 12), (4, 12)])
 .ret)))⟩
theorem ok32 : compF Tryd.prog Tryd.f32 = some c32 := by kernel_rfl
def c33 : CF := ⟨13, [.cells 2 3],
 (.seq (.ops [⟨some 1, none, .box (.tmp 0)⟩,
 ⟨some 2, none, .newz [(.slice none 0 0), (.int .i64 0), (.int .i64 0)]⟩])
 (.seq (.seq (.ops [⟨some 3, none, .fad (.tmp 1) 2⟩,
 ⟨some 4, none, .ld1 (.tmp 3)⟩,
 ⟨some 5, none, .bin .eql (.tmp 4) (.const (.int .i64 0))⟩])
 (.cond (.tmp 5)
 (.seq (.ops [⟨some 6, none, .agg [(.slice none 0 0), (.int .i64 0), (.int .i64 0)] [(1, 1, (.const (.int .i64 1))), (2, 1, (.const (.int .i64 21)))]⟩,
 ⟨none, none, .st 3 (.tmp 2) (.tmp 6)⟩])
 .ret)
 .skip))
 (.seq (.ops [⟨some 7, none, .fad (.tmp 1) 1⟩,
 ⟨some 8, none, .ld1 (.tmp 7)⟩,
 ⟨some 9, none, .fad (.tmp 1) 2⟩,
 ⟨some 10, none, .ld1 (.tmp 9)⟩,
 ⟨some 11, none, .bin .rem (.tmp 8) (.tmp 10)⟩,
 ⟨some 12, none, .call (.func 49) [(.tmp 11), (.const (.bool true))]⟩,
 ⟨none, none, .st 3 (.tmp 2) (.tmp 12)⟩])
 .ret)))⟩
theorem ok33 : compF Tryd.prog Tryd.f33 = some c33 := by kernel_rfl
def c34 : CF := ⟨9, [.cells 2 3],
 (.seq (.ops [⟨some 1, none, .box (.tmp 0)⟩,
 ⟨some 2, none, .newz [(.slice none 0 0), (.int .i64 0), (.int .i64 0)]⟩])
 (.seq (.ops [⟨some 3, none, .fad (.tmp 1) 1⟩,
 ⟨some 4, none, .ld1 (.tmp 3)⟩,
 ⟨some 5, none, .fad (.tmp 1) 2⟩,
 ⟨some 6, none, .ld1 (.tmp 5)⟩,
 ⟨some 7, none, .bin .eql (.tmp 4) (.tmp 6)⟩,
 ⟨some 8, none, .call (.func 28) [(.tmp 7)]⟩,
 ⟨none, none, .st 3 (.tmp 2) (.tmp 8)⟩])
 .ret))⟩
theorem ok34 : compF Tryd.prog Tryd.f34 = some c34 := by kernel_rfl
def c35 : CF := ⟨9, [.cells 2 3],
 (.seq (.ops [⟨some 1, none, .box (.tmp 0)⟩,
 ⟨some 2, none, .newz [(.slice none 0 0), (.int .i64 0), (.int .i64 0)]⟩])
 (.seq (.ops [⟨some 3, none, .fad (.tmp 1) 1⟩,
 ⟨some 4, none, .ld1 (.tmp 3)⟩,
 ⟨some 5, none, .fad (.tmp 1) 2⟩,
 ⟨some 6, none, .ld1 (.tmp 5)⟩,
 ⟨some 7, none, .bin .lss (.tmp 4) (.tmp 6)⟩,
 ⟨some 8, none, .call (.func 28) [(.tmp 7)]⟩,
 ⟨none, none, .st 3 (.tmp 2) (.tmp 8)⟩])
 .ret))⟩
theorem ok35 : compF Tryd.prog Tryd.f35 = some c35 := by kernel_rfl
def c36 : CF := ⟨28, [.cells 2 3],
 (.seq (.ops [⟨some 1, none, .box (.tmp 0)⟩,
 ⟨some 2, none, .newz [(.slice none 0 0), (.int .i64 0), (.int .i64 0)]⟩])
 (.seq (.draw [⟨some 6, none, .agg [(.int .i64 0), (.int .i64 0), (.int .i64 0), (.string ⟨#[]⟩), (.int .i32 0), (.int .i32 0)] [(0, 1, (.const (.int .i64 5))), (1, 1, (.const (.int .i64 2)))]⟩,
 ⟨some 7, none, .lits [(.int .i64 0), (.int .i64 0), (.int .i64 0), (.string ⟨#[]⟩), (.int .i32 0), (.int .i32 0)] 1 [(0, 6, (.tmp 6))]⟩,
 ⟨some 8, none, .fad (.tmp 1) 0⟩,
 ⟨some 9, none, .ld1 (.tmp 8)⟩,
 ⟨some 10, none, .iad 1 (.tmp 9) (.const (.int .i64 0))⟩,
 ⟨some 11, none, .ld1 (.tmp 10)⟩,
 ⟨some 12, none, .fad (.tmp 1) 0⟩,
 ⟨some 13, none, .ld1 (.tmp 12)⟩,
 ⟨some 14, none, .iad 1 (.tmp 13) (.const (.int .i64 1))⟩,
 ⟨some 15, none, .ld1 (.tmp 14)⟩,
 ⟨some 16, none, .lits [(.slice none 0 0), (.slice none 0 0), (.slice none 0 0)] 3 [(0, 1, (.tmp 7)), (1, 1, (.tmp 11)), (2, 1, (.tmp 15))]⟩,
 ⟨some 17, none, .call (.func 52) [(.tmp 16)]⟩,
 ⟨some 3, none, .mov (.tmp 17)⟩] [(0, 2), (1, 2), (0, 3), (1, 3), (0, 4), (1, 4), (0, 5), (1, 5), (0, 6), (1, 6), (2, 6), (3, 6), (4, 6), (5, 6), (0, 7), (1, 7), (2, 7), (3, 7), (4, 7), (5, 7), (0, 8), (1, 8), (2, 8), (3, 8), (4, 8), (5, 8), (0, 9), (1, 9), (2, 9), (3, 9), (4, 9), (5, 9)])
 (.seq (.seq (.ops [⟨some 19, none, .mov (.tmp 3)⟩,
 ⟨some 20, none, .call (.func 24) [(.tmp 19), (.const (.bool false))]⟩,
 ⟨some 18, none, .mov (.tmp 20)⟩,
 ⟨some 21, none, .ext (.tmp 18) 0⟩,
 ⟨some 22, none, .ext (.tmp 18) 1⟩,
 ⟨some 4, none, .mov (.tmp 21)⟩,
 ⟨some 5, none, .mov (.tmp 22)⟩])
 (.seq (.ops [⟨some 23, none, .mov (.tmp 5)⟩,
 ⟨some 24, none, .bin .neq (.tmp 23) (.const (.int .i64 0))⟩])
 (.cond (.tmp 24)
 (.seq (.ops [⟨some 25, none, .agg [(.slice none 0 0), (.int .i64 0), (.int .i64 0)] [(2, 1, (.const (.int .i64 3)))]⟩,
 ⟨none, none, .st 3 (.tmp 2) (.tmp 25)⟩])
 .ret)
 .skip)))
 (.seq (.ops [⟨some 26, none, .mov (.tmp 3)⟩,
 ⟨some 27, none, .agg [(.slice none 0 0), (.int .i64 0), (.int .i64 0)] [(0, 1, (.tmp 26))]⟩,
 ⟨none, none, .st 3 (.tmp 2) (.tmp 27)⟩])
 .ret))))⟩
theorem ok36 : compF Tryd.prog Tryd.f36 = some c36 := by kernel_rfl
def c37 : CF := ⟨5, [.cells 2 3],
 (.seq (.ops [⟨some 1, none, .box (.tmp 0)⟩,
 ⟨some 2, none, .newz [(.slice none 0 0), (.int .i64 0), (.int .i64 0)]⟩])
 (.seq (.ops [⟨some 3, none, .ld 3 (.tmp 1)⟩,
 ⟨some 4, none, .call (.func 38) [(.tmp 3), (.const (.bool false))]⟩,
 ⟨none, none, .st 3 (.tmp 2) (.tmp 4)⟩])
 .ret))⟩
theorem ok37 : compF Tryd.prog Tryd.f37 = some c37 := by kernel_rfl
def c38 : CF := ⟨32, [.cells 4 3],
 (.seq (.ops [⟨some 2, none, .box (.tmp 0)⟩,
 ⟨some 4, none, .newz [(.slice none 0 0), (.int .i64 0), (.int .i64 0)]⟩])
 (.seq (.ops [⟨some 8, none, .fad (.tmp 2) 0⟩,
 ⟨some 9, none, .ld1 (.tmp 8)⟩,
 ⟨some 10, none, .iad 1 (.tmp 9) (.const (.int .i64 0))⟩,
 ⟨some 11, none, .ld1 (.tmp 10)⟩,
 ⟨some 5, none, .mov (.tmp 11)⟩])
 (.seq (.seq (.ops [⟨some 12, none, .mov (.tmp 5)⟩,
 ⟨some 13, none, .iad 6 (.tmp 12) (.const (.int .i64 0))⟩,
 ⟨some 14, none, .fad (.tmp 13) 0⟩,
 ⟨some 15, none, .ld1 (.tmp 14)⟩,
 ⟨some 16, none, .bin .neq (.tmp 15) (.const (.int .i64 5))⟩])
 (.cond (.tmp 16)
 (.seq (.ops [⟨some 17, none, .agg [(.slice none 0 0), (.int .i64 0), (.int .i64 0)] [(2, 1, (.const (.int .i64 19)))]⟩,
 ⟨none, none, .st 3 (.tmp 4) (.tmp 17)⟩])
 .ret)
 .skip))
 (.seq (.ops [⟨some 19, none, .mov (.tmp 5)⟩,
 ⟨some 20, none, .call (.func 53) [(.tmp 19), (.const (.int .i64 1))]⟩,
 ⟨some 18, none, .mov (.tmp 20)⟩,
 ⟨some 21, none, .ext (.tmp 18) 0⟩,
 ⟨some 22, none, .ext (.tmp 18) 1⟩,
 ⟨some 6, none, .mov (.tmp 21)⟩,
 ⟨some 7, none, .mov (.tmp 22)⟩])
 (.seq (.seq (.ops [⟨some 23, none, .mov (.tmp 1)⟩])
 (.cond (.tmp 23)
 (.ops [⟨some 24, none, .mov (.tmp 5)⟩,
 ⟨some 25, none, .mov (.tmp 6)⟩,
 ⟨some 26, none, .lnl (.tmp 25)⟩,
 ⟨some 27, none, .bin .add (.const (.int .i64 1)) (.tmp 26)⟩,
 ⟨some 28, none, .sl 6 (.tmp 24) (some (.tmp 27)) none none⟩,
 ⟨some 29, none, .call (.func 54) [(.tmp 28)]⟩,
 ⟨some 6, none, .mov (.tmp 29)⟩])
 .skip))
 (.seq (.ops [⟨some 30, none, .mov (.tmp 6)⟩,
 ⟨some 31, none, .agg [(.slice none 0 0), (.int .i64 0), (.int .i64 0)] [(0, 1, (.tmp 30))]⟩,
 ⟨none, none, .st 3 (.tmp 4) (.tmp 31)⟩])
 .ret))))))⟩
theorem ok38 : compF Tryd.prog Tryd.f38 = some c38 := by kernel_rfl
def c39 : CF := ⟨5, [.cells 2 3],
 (.seq (.ops [⟨some 1, none, .box (.tmp 0)⟩,
 ⟨some 2, none, .newz [(.slice none 0 0), (.int .i64 0), (.int .i64 0)]⟩])
 (.seq (.ops [⟨some 3, none, .ld 3 (.tmp 1)⟩,
 ⟨some 4, none, .call (.func 38) [(.tmp 3), (.const (.bool true))]⟩,
 ⟨none, none, .st 3 (.tmp 2) (.tmp 4)⟩])
 .ret))⟩
theorem ok39 : compF Tryd.prog Tryd.f39 = some c39 := by kernel_rfl
def c40 : CF := ⟨47, [.cells 2 3],
 (.seq (.ops [⟨some 1, none, .box (.tmp 0)⟩,
 ⟨some 2, none, .newz [(.slice none 0 0), (.int .i64 0), (.int .i64 0)]⟩])
 (.seq (.draw [⟨some 5, none, .fad (.tmp 1) 0⟩,
 ⟨some 6, none, .ld1 (.tmp 5)⟩,
 ⟨some 7, none, .iad 1 (.tmp 6) (.const (.int .i64 0))⟩,
 ⟨some 8, none, .ld1 (.tmp 7)⟩,
 ⟨some 9, none, .iad 6 (.tmp 8) (.const (.int .i64 0))⟩,
 ⟨some 10, none, .ld 6 (.tmp 9)⟩,
 ⟨some 11, none, .fad (.tmp 1) 0⟩,
 ⟨some 12, none, .ld1 (.tmp 11)⟩,
 ⟨some 13, none, .iad 1 (.tmp 12) (.const (.int .i64 1))⟩,
 ⟨some 14, none, .ld1 (.tmp 13)⟩,
 ⟨some 15, none, .iad 6 (.tmp 14) (.const (.int .i64 0))⟩,
 ⟨some 16, none, .ld 6 (.tmp 15)⟩,
 ⟨some 3, none, .newz [(.int .i64 0), (.int .i64 0), (.int .i64 0), (.string ⟨#[]⟩), (.int .i32 0), (.int .i32 0)]⟩,
 ⟨some 4, none, .newz [(.int .i64 0), (.int .i64 0), (.int .i64 0), (.string ⟨#[]⟩), (.int .i32 0), (.int .i32 0)]⟩,
 ⟨none, none, .st 6 (.tmp 3) (.tmp 10)⟩,
 ⟨none, none, .st 6 (.tmp 4) (.tmp 16)⟩] [(0, 6), (1, 6), (2, 6), (3, 6), (4, 6), (5, 6), (0, 7), (1, 7), (2, 7), (3, 7), (4, 7), (5, 7), (0, 8), (1, 8), (2, 8), (3, 8), (4, 8), (5, 8), (0, 9), (1, 9), (2, 9), (3, 9), (4, 9), (5, 9), (0, 10), (1, 10), (2, 10), (3, 10), (4, 10), (5, 10), (0, 11), (1, 11), (2, 11), (3, 11), (4, 11), (5, 11), (0, 12), (1, 12), (2, 12), (3, 12), (4, 12), (5, 12), (6, 12), (7, 12), (8, 12), (9, 12), (10, 12), (11, 12), (0, 13), (1, 13), (2, 13), (3, 13), (4, 13), (5, 13), (6, 13), (7, 13), (8, 13), (9, 13), (10, 13), (11, 13), (12, 13), (6, 14), (7, 14), (8, 14), (9, 14), (10, 14), (11, 14)])
 (.seq (.block 0 (.seq (.ops [⟨some 18, none, .fad (.tmp 3) 0⟩,
 ⟨some 19, none, .ld1 (.tmp 18)⟩,
 ⟨some 20, none, .fad (.tmp 4) 0⟩,
 ⟨some 21, none, .ld1 (.tmp 20)⟩,
 ⟨some 22, none, .bin .neq (.tmp 19) (.tmp 21)⟩,
 ⟨some 17, none, .mov (.tmp 22)⟩])
 (.cond (.tmp 17)
 (.seq (.ops [⟨some 23, none, .call (.func 28) [(.const (.bool false))]⟩,
 ⟨none, none, .st 3 (.tmp 2) (.tmp 23)⟩])
 .ret)
 (.seq (.ops [⟨some 25, none, .fad (.tmp 3) 0⟩,
 ⟨some 26, none, .ld1 (.tmp 25)⟩,
 ⟨some 27, none, .bin .eql (.tmp 26) (.const (.int .i64 5))⟩,
 ⟨some 28, none, .mov (.tmp 27)⟩,
 ⟨some 29, (some (28, false)), .fad (.tmp 3) 0⟩,
 ⟨some 30, (some (28, false)), .ld1 (.tmp 29)⟩,
 ⟨some 31, (some (28, false)), .bin .eql (.tmp 30) (.const (.int .i64 8))⟩,
 ⟨some 32, none, .pick (.tmp 28) (.const (.bool true)) (.tmp 31)⟩,
 ⟨some 24, none, .mov (.tmp 32)⟩])
 (.cond (.tmp 24)
 (.seq (.ops [⟨some 33, none, .call (.func 28) [(.const (.bool false))]⟩,
 ⟨none, none, .st 3 (.tmp 2) (.tmp 33)⟩])
 .ret)
 .skip)))))
 (.seq (.ops [⟨some 34, none, .fad (.tmp 3) 2⟩,
 ⟨some 35, none, .ld1 (.tmp 34)⟩,
 ⟨some 36, none, .fad (.tmp 4) 2⟩,
 ⟨some 37, none, .ld1 (.tmp 36)⟩,
 ⟨some 38, none, .bin .eql (.tmp 35) (.tmp 37)⟩,
 ⟨some 39, none, .mov (.tmp 38)⟩,
 ⟨some 40, (some (39, true)), .fad (.tmp 3) 3⟩,
 ⟨some 41, (some (39, true)), .ld1 (.tmp 40)⟩,
 ⟨some 42, (some (39, true)), .fad (.tmp 4) 3⟩,
 ⟨some 43, (some (39, true)), .ld1 (.tmp 42)⟩,
 ⟨some 44, (some (39, true)), .bin .eql (.tmp 41) (.tmp 43)⟩,
 ⟨some 45, none, .pick (.tmp 39) (.tmp 44) (.const (.bool false))⟩,
 ⟨some 46, none, .call (.func 28) [(.tmp 45)]⟩,
 ⟨none, none, .st 3 (.tmp 2) (.tmp 46)⟩])
 .ret))))⟩
theorem ok40 : compF Tryd.prog Tryd.f40 = some c40 := by kernel_rfl
def c41 : CF := ⟨22, [.cells 2 3],
 (.seq (.ops [⟨some 1, none, .box (.tmp 0)⟩,
 ⟨some 2, none, .newz [(.slice none 0 0), (.int .i64 0), (.int .i64 0)]⟩])
 (.seq (.ops [⟨some 3, none, .fad (.tmp 1) 0⟩,
 ⟨some 4, none, .ld1 (.tmp 3)⟩,
 ⟨some 5, none, .iad 1 (.tmp 4) (.const (.int .i64 0))⟩,
 ⟨some 6, none, .ld1 (.tmp 5)⟩,
 ⟨some 7, none, .iad 6 (.tmp 6) (.const (.int .i64 0))⟩,
 ⟨some 8, none, .fad (.tmp 7) 0⟩,
 ⟨some 9, none, .ld1 (.tmp 8)⟩,
 ⟨some 10, none, .bin .eql (.tmp 9) (.const (.int .i64 2))⟩,
 ⟨some 11, none, .mov (.tmp 10)⟩,
 ⟨some 12, (some (11, true)), .fad (.tmp 1) 0⟩,
 ⟨some 13, (some (11, true)), .ld1 (.tmp 12)⟩,
 ⟨some 14, (some (11, true)), .iad 1 (.tmp 13) (.const (.int .i64 0))⟩,
 ⟨some 15, (some (11, true)), .ld1 (.tmp 14)⟩,
 ⟨some 16, (some (11, true)), .iad 6 (.tmp 15) (.const (.int .i64 0))⟩,
 ⟨some 17, (some (11, true)), .fad (.tmp 16) 2⟩,
 ⟨some 18, (some (11, true)), .ld1 (.tmp 17)⟩,
 ⟨some 19, (some (11, true)), .bin .eql (.tmp 18) (.const (.int .i64 0))⟩,
 ⟨some 20, none, .pick (.tmp 11) (.tmp 19) (.const (.bool false))⟩,
 ⟨some 21, none, .call (.func 28) [(.tmp 20)]⟩,
 ⟨none, none, .st 3 (.tmp 2) (.tmp 21)⟩])
 .ret))⟩
theorem ok41 : compF Tryd.prog Tryd.f41 = some c41 := by kernel_rfl
def c42 : CF := ⟨66, [.tmp 2],
 (.seq (.ops [⟨some 1, none, .box (.tmp 0)⟩,
 ⟨some 2, none, .mov (.const (.int .i64 0))⟩])
 (.seq (.ops [⟨some 3, none, .mov (.const (.bool false))⟩,
 ⟨some 4, none, .mov (.const (.bool false))⟩,
 ⟨some 5, none, .mov (.const (.bool false))⟩,
 ⟨some 6, none, .mov (.const (.int .i64 0))⟩,
 ⟨some 7, none, .mov (.const (.int .i64 0))⟩])
 (.seq (.seq (.ops [⟨some 8, none, .fad (.tmp 1) 0⟩,
 ⟨some 9, none, .ld1 (.tmp 8)⟩])
 (.block 0 (.seq (.seq (.ops [⟨some 11, none, .bin .eql (.tmp 9) (.const (.int .i64 1))⟩,
 ⟨some 10, none, .mov (.tmp 11)⟩])
 (.cond (.tmp 10)
 .skip
 (.seq (.ops [⟨some 12, none, .bin .eql (.tmp 9) (.const (.int .i64 2))⟩,
 ⟨some 10, none, .mov (.tmp 12)⟩])
 (.cond (.tmp 10)
 .skip
 (.seq (.ops [⟨some 13, none, .bin .eql (.tmp 9) (.const (.int .i64 7))⟩,
 ⟨some 10, none, .mov (.tmp 13)⟩])
 (.cond (.tmp 10)
 .skip
 (.ops [⟨some 14, none, .bin .eql (.tmp 9) (.const (.int .i64 12))⟩,
 ⟨some 10, none, .mov (.tmp 14)⟩])))))))
 (.cond (.tmp 10)
 (.ops [⟨some 3, none, .mov (.const (.bool true))⟩])
 (.seq (.seq (.ops [⟨some 16, none, .bin .eql (.tmp 9) (.const (.int .i64 3))⟩,
 ⟨some 15, none, .mov (.tmp 16)⟩])
 (.cond (.tmp 15)
 .skip
 (.ops [⟨some 17, none, .bin .eql (.tmp 9) (.const (.int .i64 6))⟩,
 ⟨some 15, none, .mov (.tmp 17)⟩])))
 (.cond (.tmp 15)
 (.ops [⟨some 4, none, .mov (.const (.bool true))⟩])
 (.seq (.ops [⟨some 19, none, .bin .eql (.tmp 9) (.const (.int .i64 5))⟩,
 ⟨some 18, none, .mov (.tmp 19)⟩])
 (.cond (.tmp 18)
 (.ops [⟨some 6, none, .mov (.const (.int .i64 2))⟩,
 ⟨some 7, none, .mov (.const (.int .i64 2))⟩])
 (.seq (.seq (.ops [⟨some 21, none, .bin .eql (.tmp 9) (.const (.int .i64 8))⟩,
 ⟨some 20, none, .mov (.tmp 21)⟩])
 (.cond (.tmp 20)
 .skip
 (.ops [⟨some 22, none, .bin .eql (.tmp 9) (.const (.int .i64 11))⟩,
 ⟨some 20, none, .mov (.tmp 22)⟩])))
 (.cond (.tmp 20)
 (.draw [⟨some 23, none, .fad (.tmp 1) 1⟩,
 ⟨some 24, none, .ld1 (.tmp 23)⟩,
 ⟨some 3, none, .mov (.const (.bool true))⟩,
 ⟨some 5, none, .mov (.const (.bool true))⟩,
 ⟨some 7, none, .mov (.tmp 24)⟩] [(0, 2), (1, 2), (0, 3), (1, 3)])
 (.seq (.ops [⟨some 26, none, .bin .eql (.tmp 9) (.const (.int .i64 9))⟩,
 ⟨some 25, none, .mov (.tmp 26)⟩])
 (.cond (.tmp 25)
 (.ops [⟨some 5, none, .mov (.const (.bool true))⟩,
 ⟨some 6, none, .mov (.const (.int .i64 1))⟩,
 ⟨some 7, none, .mov (.const (.int .i64 9))⟩])
 (.seq (.ops [⟨some 28, none, .bin .eql (.tmp 9) (.const (.int .i64 10))⟩,
 ⟨some 27, none, .mov (.tmp 28)⟩])
 (.cond (.tmp 27)
 (.ops [⟨some 5, none, .mov (.const (.bool true))⟩,
 ⟨some 6, none, .mov (.const (.int .i64 3))⟩,
 ⟨some 7, none, .mov (.const (.int .i64 3))⟩])
 .skip))))))))))))))
 (.seq (.seq (.ops [⟨some 29, none, .mov (.tmp 3)⟩,
 ⟨some 30, none, .un .not (.tmp 29)⟩,
 ⟨some 31, none, .mov (.tmp 30)⟩,
 ⟨some 32, (some (31, true)), .fad (.tmp 1) 2⟩,
 ⟨some 33, (some (31, true)), .ld1 (.tmp 32)⟩,
 ⟨some 34, (some (31, true)), .bin .neq (.tmp 33) (.const (.int .i64 0))⟩,
 ⟨some 35, none, .pick (.tmp 31) (.tmp 34) (.const (.bool false))⟩,
 ⟨some 36, none, .mov (.tmp 35)⟩,
 ⟨some 37, (some (36, false)), .mov (.tmp 4)⟩,
 ⟨some 38, (some (36, false)), .un .not (.tmp 37)⟩,
 ⟨some 39, (some (36, false)), .mov (.tmp 38)⟩,
 ⟨some 40, (some (39, true)), .fad (.tmp 1) 3⟩,
 ⟨some 41, (some (39, true)), .ld1 (.tmp 40)⟩,
 ⟨some 42, (some (39, true)), .bin .neq (.tmp 41) (.const (.string ⟨#[]⟩))⟩,
 ⟨some 43, (some (36, false)), .pick (.tmp 39) (.tmp 42) (.const (.bool false))⟩,
 ⟨some 44, none, .pick (.tmp 36) (.const (.bool true)) (.tmp 43)⟩,
 ⟨some 45, none, .mov (.tmp 44)⟩,
 ⟨some 46, (some (45, false)), .mov (.tmp 5)⟩,
 ⟨some 47, (some (45, false)), .un .not (.tmp 46)⟩,
 ⟨some 48, (some (45, false)), .mov (.tmp 47)⟩,
 ⟨some 49, (some (48, true)), .fad (.tmp 1) 4⟩,
 ⟨some 50, (some (48, true)), .ld1 (.tmp 49)⟩,
 ⟨some 51, (some (48, true)), .bin .neq (.tmp 50) (.const (.int .i32 0))⟩,
 ⟨some 52, (some (45, false)), .pick (.tmp 48) (.tmp 51) (.const (.bool false))⟩,
 ⟨some 53, none, .pick (.tmp 45) (.const (.bool true)) (.tmp 52)⟩,
 ⟨some 54, none, .mov (.tmp 53)⟩,
 ⟨some 55, (some (54, false)), .fad (.tmp 1) 1⟩,
 ⟨some 56, (some (54, false)), .ld1 (.tmp 55)⟩,
 ⟨some 57, (some (54, false)), .mov (.tmp 6)⟩,
 ⟨some 58, (some (54, false)), .bin .lss (.tmp 56) (.tmp 57)⟩,
 ⟨some 59, none, .pick (.tmp 54) (.const (.bool true)) (.tmp 58)⟩,
 ⟨some 60, none, .mov (.tmp 59)⟩,
 ⟨some 61, (some (60, false)), .fad (.tmp 1) 1⟩,
 ⟨some 62, (some (60, false)), .ld1 (.tmp 61)⟩,
 ⟨some 63, (some (60, false)), .mov (.tmp 7)⟩,
 ⟨some 64, (some (60, false)), .bin .gtr (.tmp 62) (.tmp 63)⟩,
 ⟨some 65, none, .pick (.tmp 60) (.const (.bool true)) (.tmp 64)⟩])
 (.cond (.tmp 65)
 (.seq (.ops [⟨some 2, none, .mov (.const (.int .i64 6))⟩])
 .ret)
 .skip))
 (.seq (.ops [⟨some 2, none, .mov (.const (.int .i64 0))⟩])
 .ret)))))⟩
theorem ok42 : compF Tryd.prog Tryd.f42 = some c42 := by kernel_rfl
def c43 : CF := ⟨76, [.tmp 4],
 (.seq (.ops [⟨some 2, none, .box (.tmp 0)⟩,
 ⟨some 4, none, .mov (.const (.int .i64 0))⟩])
 (.seq (.ops [⟨some 5, none, .mov (.const (.int .i64 0))⟩,
 ⟨some 6, none, .mov (.const (.int .i64 0))⟩])
 (.seq (.seq (.ops [⟨some 9, none, .fad (.tmp 2) 0⟩,
 ⟨some 10, none, .ld1 (.tmp 9)⟩])
 (.block 0 (.seq (.block 5 (.seq (.block 4 (.seq (.block 3 (.seq (.block 2 (.seq (.block 1 (.seq (.seq (.seq (.ops [⟨some 12, none, .bin .eql (.tmp 10) (.const (.int .i64 1))⟩,
 ⟨some 11, none, .mov (.tmp 12)⟩])
 (.cond (.tmp 11)
 (.exit 1)
 .skip))
 (.seq (.seq (.ops [⟨some 14, none, .bin .eql (.tmp 10) (.const (.int .i64 2))⟩,
 ⟨some 13, none, .mov (.tmp 14)⟩])
 (.cond (.tmp 13)
 (.exit 2)
 .skip))
 (.seq (.seq (.seq (.ops [⟨some 16, none, .bin .eql (.tmp 10) (.const (.int .i64 7))⟩,
 ⟨some 15, none, .mov (.tmp 16)⟩])
 (.cond (.tmp 15)
 .skip
 (.ops [⟨some 17, none, .bin .eql (.tmp 10) (.const (.int .i64 12))⟩,
 ⟨some 15, none, .mov (.tmp 17)⟩])))
 (.cond (.tmp 15)
 (.exit 3)
 .skip))
 (.seq (.seq (.ops [⟨some 19, none, .bin .eql (.tmp 10) (.const (.int .i64 11))⟩,
 ⟨some 18, none, .mov (.tmp 19)⟩])
 (.cond (.tmp 18)
 (.exit 4)
 .skip))
 (.seq (.ops [⟨some 21, none, .bin .eql (.tmp 10) (.const (.int .i64 8))⟩,
 ⟨some 20, none, .mov (.tmp 21)⟩])
 (.cond (.tmp 20)
 (.exit 5)
 .skip))))))
 (.exit 0)))
 (.seq (.draw [⟨some 22, none, .fad (.tmp 2) 2⟩,
 ⟨some 23, none, .ld1 (.tmp 22)⟩,
 ⟨some 24, none, .fad (.tmp 2) 2⟩,
 ⟨some 25, none, .ld1 (.tmp 24)⟩,
 ⟨some 5, none, .mov (.tmp 23)⟩,
 ⟨some 6, none, .mov (.tmp 25)⟩] [(0, 2), (1, 2), (0, 3), (1, 3), (2, 4), (3, 4)])
 (.exit 0))))
 (.seq (.ops [⟨some 6, none, .mov (.const (.int .i64 1))⟩])
 (.exit 0))))
 (.seq (.ops [⟨some 6, none, .mov (.const (.int .i64 1000000))⟩])
 (.exit 0))))
 (.ops [⟨some 5, none, .mov (.const (.int .i64 1))⟩])))
 (.seq (.ops [⟨some 6, none, .mov (.const (.int .i64 8))⟩])
 (.exit 0)))))
 (.seq (.seq (.ops [⟨some 26, none, .fad (.tmp 2) 2⟩,
 ⟨some 27, none, .ld1 (.tmp 26)⟩,
 ⟨some 28, none, .mov (.tmp 5)⟩,
 ⟨some 29, none, .bin .lss (.tmp 27) (.tmp 28)⟩,
 ⟨some 30, none, .mov (.tmp 29)⟩,
 ⟨some 31, (some (30, false)), .fad (.tmp 2) 2⟩,
 ⟨some 32, (some (30, false)), .ld1 (.tmp 31)⟩,
 ⟨some 33, (some (30, false)), .mov (.tmp 6)⟩,
 ⟨some 34, (some (30, false)), .bin .gtr (.tmp 32) (.tmp 33)⟩,
 ⟨some 35, none, .pick (.tmp 30) (.const (.bool true)) (.tmp 34)⟩,
 ⟨some 36, none, .mov (.tmp 35)⟩,
 ⟨some 37, (some (36, false)), .fad (.tmp 2) 4⟩,
 ⟨some 38, (some (36, false)), .ld1 (.tmp 37)⟩,
 ⟨some 39, (some (36, false)), .bin .lss (.tmp 38) (.const (.int .i32 0))⟩,
 ⟨some 40, none, .pick (.tmp 36) (.const (.bool true)) (.tmp 39)⟩,
 ⟨some 41, none, .mov (.tmp 40)⟩,
 ⟨some 42, (some (41, false)), .fad (.tmp 2) 4⟩,
 ⟨some 43, (some (41, false)), .ld1 (.tmp 42)⟩,
 ⟨some 44, (some (41, false)), .bin .gtr (.tmp 43) (.const (.int .i32 99))⟩,
 ⟨some 45, none, .pick (.tmp 41) (.const (.bool true)) (.tmp 44)⟩,
 ⟨some 46, none, .mov (.tmp 45)⟩,
 ⟨some 47, (some (46, false)), .fad (.tmp 2) 5⟩,
 ⟨some 48, (some (46, false)), .ld1 (.tmp 47)⟩,
 ⟨some 49, (some (46, false)), .bin .lss (.tmp 48) (.const (.int .i32 0))⟩,
 ⟨some 50, none, .pick (.tmp 46) (.const (.bool true)) (.tmp 49)⟩])
 (.cond (.tmp 50)
 (.seq (.ops [⟨some 4, none, .mov (.const (.int .i64 7))⟩])
 .ret)
 .skip))
 (.seq (.ops [⟨some 52, none, .ld 6 (.tmp 2)⟩,
 ⟨some 53, none, .mov (.tmp 1)⟩,
 ⟨some 54, none, .call (.func 55) [(.tmp 52), (.tmp 53)]⟩,
 ⟨some 51, none, .mov (.tmp 54)⟩,
 ⟨some 55, none, .ext (.tmp 51) 0⟩,
 ⟨some 56, none, .ext (.tmp 51) 1⟩,
 ⟨some 7, none, .mov (.tmp 55)⟩,
 ⟨some 8, none, .mov (.tmp 56)⟩])
 (.seq (.seq (.ops [⟨some 57, none, .fad (.tmp 2) 0⟩,
 ⟨some 58, none, .ld1 (.tmp 57)⟩])
 (.block 6 (.seq (.seq (.ops [⟨some 60, none, .bin .eql (.tmp 58) (.const (.int .i64 3))⟩,
 ⟨some 59, none, .mov (.tmp 60)⟩])
 (.cond (.tmp 59)
 .skip
 (.ops [⟨some 61, none, .bin .eql (.tmp 58) (.const (.int .i64 6))⟩,
 ⟨some 59, none, .mov (.tmp 61)⟩])))
 (.cond (.tmp 59)
 (.seq (.ops [⟨some 62, none, .fad (.tmp 2) 3⟩,
 ⟨some 63, none, .ld1 (.tmp 62)⟩,
 ⟨some 64, none, .call (.func 56) [(.tmp 63)]⟩,
 ⟨some 65, none, .un .not (.tmp 64)⟩])
 (.cond (.tmp 65)
 (.seq (.ops [⟨some 4, none, .mov (.const (.int .i64 6))⟩])
 .ret)
 .skip))
 (.seq (.seq (.ops [⟨some 67, none, .bin .eql (.tmp 58) (.const (.int .i64 8))⟩,
 ⟨some 66, none, .mov (.tmp 67)⟩])
 (.cond (.tmp 66)
 .skip
 (.ops [⟨some 68, none, .bin .eql (.tmp 58) (.const (.int .i64 11))⟩,
 ⟨some 66, none, .mov (.tmp 68)⟩])))
 (.cond (.tmp 66)
 (.seq (.ops [⟨some 69, none, .fad (.tmp 2) 1⟩,
 ⟨some 70, none, .ld1 (.tmp 69)⟩,
 ⟨some 71, none, .mov (.tmp 7)⟩,
 ⟨some 72, none, .mov (.tmp 8)⟩,
 ⟨some 73, none, .bin .add (.tmp 71) (.tmp 72)⟩,
 ⟨some 74, none, .bin .add (.tmp 73) (.const (.int .i64 1))⟩,
 ⟨some 75, none, .bin .neq (.tmp 70) (.tmp 74)⟩])
 (.cond (.tmp 75)
 (.seq (.ops [⟨some 4, none, .mov (.const (.int .i64 6))⟩])
 .ret)
 .skip))
 .skip))))))
 (.seq (.ops [⟨some 4, none, .mov (.const (.int .i64 0))⟩])
 .ret)))))))⟩
theorem ok43 : compF Tryd.prog Tryd.f43 = some c43 := by kernel_rfl
def c44 : CF := ⟨25, [.tmp 2],
 (.seq (.ops [⟨some 2, none, .mov (.const (.int .i64 0))⟩])
 (.seq (.seq (.ops [⟨some 5, none, .mov (.tmp 0)⟩,
 ⟨some 6, none, .lnl (.tmp 5)⟩,
 ⟨some 7, none, .bin .lss (.tmp 6) (.const (.int .i64 1))⟩])
 (.cond (.tmp 7)
 (.ops [⟨some 8, none, .ifc 9 (.const (.string ⟨#[115, 108, 105, 99, 101, 115, 46, 77, 97, 120, 58, 32, 101, 109, 112, 116, 121, 32, 108, 105, 115, 116]⟩))⟩,
 ⟨none, none, .bad⟩])
 .skip))
 (.seq (.ops [⟨some 9, none, .mov (.tmp 0)⟩,
 ⟨some 10, none, .iad 1 (.tmp 9) (.const (.int .i64 0))⟩,
 ⟨some 11, none, .ld1 (.tmp 10)⟩,
 ⟨some 3, none, .mov (.tmp 11)⟩])
 (.seq (.seq (.ops [⟨some 4, none, .mov (.const (.int .i64 1))⟩])
 (.block 0 (.loop (.seq (.seq (.ops [⟨some 12, none, .mov (.tmp 4)⟩,
 ⟨some 13, none, .mov (.tmp 0)⟩,
 ⟨some 14, none, .lnl (.tmp 13)⟩,
 ⟨some 15, none, .bin .lss (.tmp 12) (.tmp 14)⟩])
 (.cond (.tmp 15)
 .skip
 (.exit 0)))
 (.seq (.block 1 (.ops [⟨some 18, none, .mov (.tmp 3)⟩,
 ⟨some 19, none, .mov (.tmp 0)⟩,
 ⟨some 20, none, .mov (.tmp 4)⟩,
 ⟨some 21, none, .iad 1 (.tmp 19) (.tmp 20)⟩,
 ⟨some 22, none, .ld1 (.tmp 21)⟩,
 ⟨some 23, none, .mnx true [(.tmp 18), (.tmp 22)]⟩,
 ⟨some 3, none, .mov (.tmp 23)⟩]))
 (.ops [⟨some 16, none, .mov (.tmp 4)⟩,
 ⟨some 17, none, .bin .add (.tmp 16) (.const (.int .i64 1))⟩,
 ⟨some 4, none, .mov (.tmp 17)⟩]))))))
 (.seq (.ops [⟨some 24, none, .mov (.tmp 3)⟩,
 ⟨some 2, none, .mov (.tmp 24)⟩])
 .ret)))))⟩
theorem ok44 : compF Tryd.prog Tryd.f44 = some c44 := by kernel_rfl
def c45 : CF := ⟨12, [.tmp 2],
 (.seq (.ops [⟨some 1, none, .box (.tmp 0)⟩,
 ⟨some 2, none, .mov (.const (.slice none 0 0))⟩])
 (.seq (.ops [⟨some 5, none, .ld1 (.tmp 1)⟩,
 ⟨some 6, none, .lnl (.tmp 5)⟩,
 ⟨some 7, none, .mks 8 [(.int .i64 0)] (.tmp 6) (.tmp 6)⟩,
 ⟨some 3, none, .newz [(.slice none 0 0)]⟩,
 ⟨none, none, .st 1 (.tmp 3) (.tmp 7)⟩])
 (.seq (.ops [⟨some 4, none, .newz [.nilFunc]⟩])
 (.seq (.ops [⟨some 8, none, .fn 57 [] [(.tmp 1), (.tmp 4), (.tmp 3)]⟩,
 ⟨none, none, .st 1 (.tmp 4) (.tmp 8)⟩])
 (.seq (.ops [⟨some 9, none, .ld1 (.tmp 4)⟩,
 ⟨some 10, none, .call (.tmp 9) [(.const (.int .i64 0))]⟩])
 (.seq (.ops [⟨some 11, none, .ld1 (.tmp 3)⟩,
 ⟨some 2, none, .mov (.tmp 11)⟩])
 .ret))))))⟩
theorem ok45 : compF Tryd.prog Tryd.f45 = some c45 := by kernel_rfl
def c46 : CF := ⟨99, [.tmp 8],
 (.seq (.ops [⟨some 8, none, .mov (.const (.int .i64 0))⟩])
 (.seq (.ops [⟨some 17, none, .mov (.tmp 0)⟩,
 ⟨some 18, none, .mov (.tmp 2)⟩,
 ⟨some 19, none, .iad 6 (.tmp 17) (.tmp 18)⟩,
 ⟨some 20, none, .ld 6 (.tmp 19)⟩,
 ⟨some 21, none, .mov (.tmp 3)⟩,
 ⟨some 22, none, .call (.func 55) [(.tmp 20), (.tmp 21)]⟩,
 ⟨some 16, none, .mov (.tmp 22)⟩,
 ⟨some 23, none, .ext (.tmp 16) 0⟩,
 ⟨some 24, none, .ext (.tmp 16) 1⟩,
 ⟨some 9, none, .mov (.tmp 23)⟩,
 ⟨some 10, none, .mov (.tmp 24)⟩])
 (.seq (.seq (.ops [⟨some 25, none, .mov (.tmp 0)⟩,
 ⟨some 26, none, .mov (.tmp 2)⟩,
 ⟨some 27, none, .iad 6 (.tmp 25) (.tmp 26)⟩,
 ⟨some 28, none, .fad (.tmp 27) 1⟩,
 ⟨some 29, none, .ld1 (.tmp 28)⟩,
 ⟨some 30, none, .bin .eql (.tmp 29) (.const (.int .i64 0))⟩])
 (.cond (.tmp 30)
 (.seq (.ops [⟨some 8, none, .mov (.const (.int .i64 0))⟩])
 .ret)
 .skip))
 (.seq (.ops [⟨some 11, none, .mov (.const (.map none))⟩])
 (.seq (.seq (.ops [⟨some 31, none, .mov (.tmp 9)⟩,
 ⟨some 32, none, .bin .gtr (.tmp 31) (.const (.int .i64 0))⟩])
 (.cond (.tmp 32)
 (.ops [⟨some 33, none, .mkm⟩,
 ⟨some 11, none, .mov (.tmp 33)⟩])
 .skip))
 (.seq (.ops [⟨some 12, none, .mov (.const (.bool false))⟩])
 (.seq (.seq (.ops [⟨some 34, none, .mov (.tmp 0)⟩,
 ⟨some 35, none, .mov (.tmp 1)⟩,
 ⟨some 36, none, .mov (.tmp 2)⟩,
 ⟨some 37, none, .call (.func 58) [(.tmp 34), (.tmp 35), (.tmp 36)]⟩,
 ⟨some 38, none, .lnl (.tmp 37)⟩,
 ⟨some 39, none, .mov (.const (.int .i64 0))⟩])
 (.block 0 (.loop (.seq (.ops [⟨some 40, none, .bin .lss (.tmp 39) (.tmp 38)⟩])
 (.seq (.cond (.tmp 40)
 .skip
 (.exit 0))
 (.seq (.block 1 (.seq (.ops [⟨some 41, none, .mov (.tmp 39)⟩,
 ⟨some 42, none, .iad 1 (.tmp 37) (.tmp 39)⟩,
 ⟨some 43, none, .ld1 (.tmp 42)⟩,
 ⟨some 13, none, .mov (.tmp 41)⟩,
 ⟨some 14, none, .mov (.tmp 43)⟩])
 (.seq (.ops [⟨some 44, none, .mov (.tmp 0)⟩,
 ⟨some 45, none, .mov (.tmp 14)⟩,
 ⟨some 46, none, .iad 6 (.tmp 44) (.tmp 45)⟩,
 ⟨some 47, none, .ld 6 (.tmp 46)⟩,
 ⟨some 15, none, .newz [(.int .i64 0), (.int .i64 0), (.int .i64 0), (.string ⟨#[]⟩), (.int .i32 0), (.int .i32 0)]⟩,
 ⟨none, none, .st 6 (.tmp 15) (.tmp 47)⟩])
 (.block 2 (.seq (.seq (.ops [⟨some 49, none, .fad (.tmp 15) 0⟩,
 ⟨some 50, none, .ld1 (.tmp 49)⟩,
 ⟨some 51, none, .bin .eql (.tmp 50) (.const (.int .i64 12))⟩,
 ⟨some 52, none, .mov (.tmp 13)⟩,
 ⟨some 53, none, .mov (.tmp 9)⟩,
 ⟨some 54, none, .bin .lss (.tmp 52) (.tmp 53)⟩,
 ⟨some 55, none, .eqb true (.tmp 51) (.tmp 54)⟩,
 ⟨some 48, none, .mov (.tmp 55)⟩])
 (.cond (.tmp 48)
 .skip
 (.seq (.ops [⟨some 56, none, .mov (.tmp 13)⟩,
 ⟨some 57, none, .mov (.tmp 9)⟩,
 ⟨some 58, none, .bin .geq (.tmp 56) (.tmp 57)⟩,
 ⟨some 59, none, .mov (.tmp 58)⟩,
 ⟨some 60, (some (59, true)), .mov (.tmp 13)⟩,
 ⟨some 61, (some (59, true)), .mov (.tmp 9)⟩,
 ⟨some 62, (some (59, true)), .mov (.tmp 10)⟩,
 ⟨some 63, (some (59, true)), .bin .add (.tmp 61) (.tmp 62)⟩,
 ⟨some 64, (some (59, true)), .bin .lss (.tmp 60) (.tmp 63)⟩,
 ⟨some 65, none, .pick (.tmp 59) (.tmp 64) (.const (.bool false))⟩,
 ⟨some 66, none, .mov (.tmp 65)⟩,
 ⟨some 67, (some (66, true)), .fad (.tmp 15) 0⟩,
 ⟨some 68, (some (66, true)), .ld1 (.tmp 67)⟩,
 ⟨some 69, (some (66, true)), .bin .neq (.tmp 68) (.const (.int .i64 8))⟩,
 ⟨some 70, none, .pick (.tmp 66) (.tmp 69) (.const (.bool false))⟩,
 ⟨some 48, none, .mov (.tmp 70)⟩])
 (.cond (.tmp 48)
 .skip
 (.ops [⟨some 71, none, .mov (.tmp 0)⟩,
 ⟨some 72, none, .mov (.tmp 2)⟩,
 ⟨some 73, none, .iad 6 (.tmp 71) (.tmp 72)⟩,
 ⟨some 74, none, .fad (.tmp 73) 0⟩,
 ⟨some 75, none, .ld1 (.tmp 74)⟩,
 ⟨some 76, none, .bin .eql (.tmp 75) (.const (.int .i64 5))⟩,
 ⟨some 77, none, .mov (.tmp 76)⟩,
 ⟨some 78, (some (77, true)), .fad (.tmp 15) 0⟩,
 ⟨some 79, (some (77, true)), .ld1 (.tmp 78)⟩,
 ⟨some 80, (some (77, true)), .call (.func 48) [(.tmp 79)]⟩,
 ⟨some 81, (some (77, true)), .un .not (.tmp 80)⟩,
 ⟨some 82, none, .pick (.tmp 77) (.tmp 81) (.const (.bool false))⟩,
 ⟨some 48, none, .mov (.tmp 82)⟩])))))
 (.cond (.tmp 48)
 (.seq (.ops [⟨some 8, none, .mov (.const (.int .i64 6))⟩])
 .ret)
 (.seq (.ops [⟨some 84, none, .mov (.tmp 13)⟩,
 ⟨some 85, none, .mov (.tmp 9)⟩,
 ⟨some 86, none, .bin .lss (.tmp 84) (.tmp 85)⟩,
 ⟨some 83, none, .mov (.tmp 86)⟩])
 (.cond (.tmp 83)
 (.seq (.ops [⟨some 87, none, .mov (.tmp 12)⟩,
 ⟨some 88, none, .mov (.tmp 87)⟩,
 ⟨some 89, (some (88, false)), .mov (.tmp 11)⟩,
 ⟨some 90, (some (88, false)), .fad (.tmp 15) 2⟩,
 ⟨some 91, (some (88, false)), .ld1 (.tmp 90)⟩,
 ⟨some 92, (some (88, false)), .lkp (.int .i64) (.bool false) (.tmp 89) (.tmp 91) false⟩,
 ⟨some 93, none, .pick (.tmp 88) (.const (.bool true)) (.tmp 92)⟩,
 ⟨some 12, none, .mov (.tmp 93)⟩])
 (.ops [⟨some 94, none, .mov (.tmp 11)⟩,
 ⟨some 95, none, .fad (.tmp 15) 2⟩,
 ⟨some 96, none, .ld1 (.tmp 95)⟩,
 ⟨none, none, .mup (.int .i64) (.tmp 94) (.tmp 96) (.const (.bool true))⟩]))
 .skip))))))))
 (.ops [⟨some 97, none, .bin .add (.tmp 39) (.const (.int .i64 1))⟩,
 ⟨some 39, none, .mov (.tmp 97)⟩])))))))
 (.seq (.seq (.ops [⟨some 98, none, .mov (.tmp 12)⟩])
 (.cond (.tmp 98)
 (.seq (.ops [⟨some 8, none, .mov (.const (.int .i64 8))⟩])
 .ret)
 .skip))
 (.seq (.ops [⟨some 8, none, .mov (.const (.int .i64 0))⟩])
 .ret)))))))))⟩
theorem ok46 : compF Tryd.prog Tryd.f46 = some c46 := by kernel_rfl
def c47 : CF := ⟨23, [.tmp 4],
 (.seq (.ops [⟨some 4, none, .mov (.const (.int .i64 0))⟩])
 (.seq (.seq (.ops [⟨some 8, none, .mov (.tmp 0)⟩,
 ⟨some 9, none, .call (.func 59) [(.tmp 8)]⟩,
 ⟨some 7, none, .mov (.tmp 9)⟩,
 ⟨some 10, none, .ext (.tmp 7) 0⟩,
 ⟨some 11, none, .ext (.tmp 7) 1⟩,
 ⟨some 5, none, .mov (.tmp 10)⟩,
 ⟨some 6, none, .mov (.tmp 11)⟩])
 (.seq (.ops [⟨some 12, none, .mov (.tmp 6)⟩,
 ⟨some 13, none, .bin .neq (.tmp 12) (.const (.int .i64 0))⟩])
 (.cond (.tmp 13)
 (.seq (.ops [⟨some 14, none, .mov (.tmp 6)⟩,
 ⟨some 4, none, .mov (.tmp 14)⟩])
 .ret)
 .skip)))
 (.seq (.seq (.ops [⟨some 15, none, .mov (.tmp 1)⟩,
 ⟨some 16, none, .bin .lss (.tmp 15) (.const (.int .i64 0))⟩,
 ⟨some 17, none, .mov (.tmp 16)⟩,
 ⟨some 18, (some (17, false)), .mov (.tmp 1)⟩,
 ⟨some 19, (some (17, false)), .mov (.tmp 0)⟩,
 ⟨some 20, (some (17, false)), .lnl (.tmp 19)⟩,
 ⟨some 21, (some (17, false)), .bin .geq (.tmp 18) (.tmp 20)⟩,
 ⟨some 22, none, .pick (.tmp 17) (.const (.bool true)) (.tmp 21)⟩])
 (.cond (.tmp 22)
 (.seq (.ops [⟨some 4, none, .mov (.const (.int .i64 4))⟩])
 .ret)
 .skip))
 (.seq (.ops [⟨some 4, none, .mov (.const (.int .i64 0))⟩])
 .ret))))⟩
theorem ok47 : compF Tryd.prog Tryd.f47 = some c47 := by kernel_rfl
def c48 : CF := ⟨13, [.tmp 2],
 (.seq (.ops [⟨some 2, none, .mov (.const (.bool false))⟩])
 (.seq (.ops [⟨some 3, none, .mov (.tmp 0)⟩,
 ⟨some 4, none, .bin .geq (.tmp 3) (.const (.int .i64 1))⟩,
 ⟨some 5, none, .mov (.tmp 4)⟩,
 ⟨some 6, (some (5, true)), .mov (.tmp 0)⟩,
 ⟨some 7, (some (5, true)), .bin .leq (.tmp 6) (.const (.int .i64 6))⟩,
 ⟨some 8, none, .pick (.tmp 5) (.tmp 7) (.const (.bool false))⟩,
 ⟨some 9, none, .mov (.tmp 8)⟩,
 ⟨some 10, (some (9, false)), .mov (.tmp 0)⟩,
 ⟨some 11, (some (9, false)), .bin .eql (.tmp 10) (.const (.int .i64 8))⟩,
 ⟨some 12, none, .pick (.tmp 9) (.const (.bool true)) (.tmp 11)⟩,
 ⟨some 2, none, .mov (.tmp 12)⟩])
 .ret))⟩
theorem ok48 : compF Tryd.prog Tryd.f48 = some c48 := by kernel_rfl
def c49 : CF := ⟨12, [.cells 4 3],
 (.seq (.ops [⟨some 4, none, .newz [(.slice none 0 0), (.int .i64 0), (.int .i64 0)]⟩])
 (.seq (.seq (.ops [⟨some 5, none, .mov (.tmp 1)⟩,
 ⟨some 6, none, .un .not (.tmp 5)⟩])
 (.cond (.tmp 6)
 (.seq (.ops [⟨some 7, none, .agg [(.slice none 0 0), (.int .i64 0), (.int .i64 0)] [(2, 1, (.const (.int .i64 20)))]⟩,
 ⟨none, none, .st 3 (.tmp 4) (.tmp 7)⟩])
 .ret)
 .skip))
 (.seq (.ops [⟨some 8, none, .mov (.tmp 0)⟩,
 ⟨some 9, none, .agg [(.int .i64 0), (.int .i64 0), (.int .i64 0), (.string ⟨#[]⟩), (.int .i32 0), (.int .i32 0)] [(0, 1, (.const (.int .i64 1))), (2, 1, (.tmp 8))]⟩,
 ⟨some 10, none, .lits [(.int .i64 0), (.int .i64 0), (.int .i64 0), (.string ⟨#[]⟩), (.int .i32 0), (.int .i32 0)] 1 [(0, 6, (.tmp 9))]⟩,
 ⟨some 11, none, .agg [(.slice none 0 0), (.int .i64 0), (.int .i64 0)] [(0, 1, (.tmp 10))]⟩,
 ⟨none, none, .st 3 (.tmp 4) (.tmp 11)⟩])
 .ret)))⟩
theorem ok49 : compF Tryd.prog Tryd.f49 = some c49 := by kernel_rfl
def c50 : CF := ⟨10, [.tmp 2],
 (.seq (.ops [⟨some 2, none, .mov (.const (.int .u64 0))⟩])
 (.seq (.seq (.ops [⟨some 3, none, .mov (.tmp 0)⟩,
 ⟨some 4, none, .bin .lss (.tmp 3) (.const (.int .i64 0))⟩])
 (.cond (.tmp 4)
 (.seq (.ops [⟨some 5, none, .mov (.tmp 0)⟩,
 ⟨some 6, none, .cvi .u64 (.tmp 5)⟩,
 ⟨some 7, none, .un .neg (.tmp 6)⟩,
 ⟨some 2, none, .mov (.tmp 7)⟩])
 .ret)
 .skip))
 (.seq (.ops [⟨some 8, none, .mov (.tmp 0)⟩,
 ⟨some 9, none, .cvi .u64 (.tmp 8)⟩,
 ⟨some 2, none, .mov (.tmp 9)⟩])
 .ret)))⟩
theorem ok50 : compF Tryd.prog Tryd.f50 = some c50 := by kernel_rfl
def c51 : CF := ⟨51, [.tmp 4, .tmp 5],
 (.seq (.ops [⟨some 4, none, .mov (.const (.int .u64 0))⟩,
 ⟨some 5, none, .mov (.const (.int .u64 0))⟩])
 (.seq (.ops [⟨some 14, none, .mov (.tmp 0)⟩,
 ⟨some 15, none, .bin .and (.tmp 14) (.const (.int .u64 4294967295))⟩,
 ⟨some 6, none, .mov (.tmp 15)⟩])
 (.seq (.ops [⟨some 16, none, .mov (.tmp 0)⟩,
 ⟨some 17, none, .bin .shr (.tmp 16) (.const (.int .u64 32))⟩,
 ⟨some 7, none, .mov (.tmp 17)⟩])
 (.seq (.ops [⟨some 18, none, .mov (.tmp 1)⟩,
 ⟨some 19, none, .bin .and (.tmp 18) (.const (.int .u64 4294967295))⟩,
 ⟨some 8, none, .mov (.tmp 19)⟩])
 (.seq (.ops [⟨some 20, none, .mov (.tmp 1)⟩,
 ⟨some 21, none, .bin .shr (.tmp 20) (.const (.int .u64 32))⟩,
 ⟨some 9, none, .mov (.tmp 21)⟩])
 (.seq (.ops [⟨some 22, none, .mov (.tmp 6)⟩,
 ⟨some 23, none, .mov (.tmp 8)⟩,
 ⟨some 24, none, .bin .mul (.tmp 22) (.tmp 23)⟩,
 ⟨some 10, none, .mov (.tmp 24)⟩])
 (.seq (.ops [⟨some 25, none, .mov (.tmp 7)⟩,
 ⟨some 26, none, .mov (.tmp 8)⟩,
 ⟨some 27, none, .bin .mul (.tmp 25) (.tmp 26)⟩,
 ⟨some 28, none, .mov (.tmp 10)⟩,
 ⟨some 29, none, .bin .shr (.tmp 28) (.const (.int .u64 32))⟩,
 ⟨some 30, none, .bin .add (.tmp 27) (.tmp 29)⟩,
 ⟨some 11, none, .mov (.tmp 30)⟩])
 (.seq (.ops [⟨some 31, none, .mov (.tmp 11)⟩,
 ⟨some 32, none, .bin .and (.tmp 31) (.const (.int .u64 4294967295))⟩,
 ⟨some 12, none, .mov (.tmp 32)⟩])
 (.seq (.ops [⟨some 33, none, .mov (.tmp 11)⟩,
 ⟨some 34, none, .bin .shr (.tmp 33) (.const (.int .u64 32))⟩,
 ⟨some 13, none, .mov (.tmp 34)⟩])
 (.seq (.ops [⟨some 35, none, .mov (.tmp 12)⟩,
 ⟨some 36, none, .mov (.tmp 6)⟩,
 ⟨some 37, none, .mov (.tmp 9)⟩,
 ⟨some 38, none, .bin .mul (.tmp 36) (.tmp 37)⟩,
 ⟨some 39, none, .bin .add (.tmp 35) (.tmp 38)⟩,
 ⟨some 12, none, .mov (.tmp 39)⟩])
 (.seq (.ops [⟨some 40, none, .mov (.tmp 7)⟩,
 ⟨some 41, none, .mov (.tmp 9)⟩,
 ⟨some 42, none, .bin .mul (.tmp 40) (.tmp 41)⟩,
 ⟨some 43, none, .mov (.tmp 13)⟩,
 ⟨some 44, none, .bin .add (.tmp 42) (.tmp 43)⟩,
 ⟨some 45, none, .mov (.tmp 12)⟩,
 ⟨some 46, none, .bin .shr (.tmp 45) (.const (.int .u64 32))⟩,
 ⟨some 47, none, .bin .add (.tmp 44) (.tmp 46)⟩,
 ⟨some 4, none, .mov (.tmp 47)⟩])
 (.seq (.ops [⟨some 48, none, .mov (.tmp 0)⟩,
 ⟨some 49, none, .mov (.tmp 1)⟩,
 ⟨some 50, none, .bin .mul (.tmp 48) (.tmp 49)⟩,
 ⟨some 5, none, .mov (.tmp 50)⟩])
 .ret))))))))))))⟩
theorem ok51 : compF Tryd.prog Tryd.f51 = some c51 := by kernel_rfl
def c52 : CF := ⟨36, [.tmp 2],
 (.seq (.ops [⟨some 2, none, .mov (.const (.slice none 0 0))⟩])
 (.seq (.ops [⟨some 3, none, .mov (.const (.int .i64 0))⟩])
 (.seq (.seq (.ops [⟨some 9, none, .mov (.tmp 0)⟩,
 ⟨some 10, none, .lnl (.tmp 9)⟩,
 ⟨some 11, none, .mov (.const (.int .i64 0))⟩])
 (.block 0 (.loop (.seq (.ops [⟨some 12, none, .bin .lss (.tmp 11) (.tmp 10)⟩])
 (.seq (.cond (.tmp 12)
 .skip
 (.exit 0))
 (.seq (.block 1 (.seq (.ops [⟨some 13, none, .iad 1 (.tmp 9) (.tmp 11)⟩,
 ⟨some 14, none, .ld1 (.tmp 13)⟩,
 ⟨some 5, none, .mov (.tmp 14)⟩])
 (.seq (.ops [⟨some 15, none, .mov (.tmp 3)⟩,
 ⟨some 16, none, .mov (.tmp 5)⟩,
 ⟨some 17, none, .lnl (.tmp 16)⟩,
 ⟨some 18, none, .bin .add (.tmp 15) (.tmp 17)⟩,
 ⟨some 3, none, .mov (.tmp 18)⟩])
 (.seq (.ops [⟨some 19, none, .mov (.tmp 3)⟩,
 ⟨some 20, none, .bin .lss (.tmp 19) (.const (.int .i64 0))⟩])
 (.cond (.tmp 20)
 (.ops [⟨some 21, none, .ifc 9 (.const (.string ⟨#[108, 101, 110, 32, 111, 117, 116, 32, 111, 102, 32, 114, 97, 110, 103, 101]⟩))⟩,
 ⟨none, none, .bad⟩])
 .skip)))))
 (.ops [⟨some 22, none, .bin .add (.tmp 11) (.const (.int .i64 1))⟩,
 ⟨some 11, none, .mov (.tmp 22)⟩])))))))
 (.seq (.ops [⟨some 23, none, .mov (.tmp 3)⟩,
 ⟨some 24, none, .call (.func 60) [(.const (.slice none 0 0)), (.tmp 23)]⟩,
 ⟨some 6, none, .mov (.tmp 24)⟩])
 (.seq (.seq (.ops [⟨some 25, none, .mov (.tmp 0)⟩,
 ⟨some 26, none, .lnl (.tmp 25)⟩,
 ⟨some 27, none, .mov (.const (.int .i64 0))⟩])
 (.block 2 (.loop (.seq (.ops [⟨some 28, none, .bin .lss (.tmp 27) (.tmp 26)⟩])
 (.seq (.cond (.tmp 28)
 .skip
 (.exit 2))
 (.seq (.block 3 (.seq (.ops [⟨some 29, none, .iad 1 (.tmp 25) (.tmp 27)⟩,
 ⟨some 30, none, .ld1 (.tmp 29)⟩,
 ⟨some 8, none, .mov (.tmp 30)⟩])
 (.ops [⟨some 31, none, .mov (.tmp 6)⟩,
 ⟨some 32, none, .mov (.tmp 8)⟩,
 ⟨some 33, none, .app 6 48 (.tmp 31) (.tmp 32)⟩,
 ⟨some 6, none, .mov (.tmp 33)⟩])))
 (.ops [⟨some 34, none, .bin .add (.tmp 27) (.const (.int .i64 1))⟩,
 ⟨some 27, none, .mov (.tmp 34)⟩])))))))
 (.seq (.ops [⟨some 35, none, .mov (.tmp 6)⟩,
 ⟨some 2, none, .mov (.tmp 35)⟩])
 .ret))))))⟩
theorem ok52 : compF Tryd.prog Tryd.f52 = some c52 := by kernel_rfl
def c53 : CF := ⟨22, [.tmp 4, .tmp 5],
 (.seq (.ops [⟨some 4, none, .mov (.const (.slice none 0 0))⟩,
 ⟨some 5, none, .mov (.const (.int .i64 0))⟩])
 (.seq (.seq (.ops [⟨some 7, none, .mov (.tmp 0)⟩,
 ⟨some 8, none, .mov (.tmp 1)⟩,
 ⟨some 9, none, .call (.func 47) [(.tmp 7), (.tmp 8)]⟩,
 ⟨some 6, none, .mov (.tmp 9)⟩])
 (.seq (.ops [⟨some 10, none, .mov (.tmp 6)⟩,
 ⟨some 11, none, .bin .neq (.tmp 10) (.const (.int .i64 0))⟩])
 (.cond (.tmp 11)
 (.seq (.ops [⟨some 12, none, .mov (.tmp 6)⟩,
 ⟨some 4, none, .mov (.const (.slice none 0 0))⟩,
 ⟨some 5, none, .mov (.tmp 12)⟩])
 .ret)
 .skip)))
 (.seq (.ops [⟨some 13, none, .mov (.tmp 0)⟩,
 ⟨some 14, none, .mov (.tmp 1)⟩,
 ⟨some 15, none, .mov (.tmp 0)⟩,
 ⟨some 16, none, .call (.func 45) [(.tmp 15)]⟩,
 ⟨some 17, none, .mov (.tmp 1)⟩,
 ⟨some 18, none, .iad 1 (.tmp 16) (.tmp 17)⟩,
 ⟨some 19, none, .ld1 (.tmp 18)⟩,
 ⟨some 20, none, .sl 6 (.tmp 13) (some (.tmp 14)) (some (.tmp 19)) none⟩,
 ⟨some 21, none, .call (.func 54) [(.tmp 20)]⟩,
 ⟨some 4, none, .mov (.tmp 21)⟩,
 ⟨some 5, none, .mov (.const (.int .i64 0))⟩])
 .ret)))⟩
theorem ok53 : compF Tryd.prog Tryd.f53 = some c53 := by kernel_rfl
def c54 : CF := ⟨8, [.tmp 2],
 (.seq (.ops [⟨some 2, none, .mov (.const (.slice none 0 0))⟩])
 (.seq (.seq (.ops [⟨some 3, none, .mov (.tmp 0)⟩,
 ⟨some 4, none, .eqn 1 false true (.tmp 3) (.const (.slice none 0 0))⟩])
 (.cond (.tmp 4)
 (.seq (.ops [⟨some 2, none, .mov (.const (.slice none 0 0))⟩])
 .ret)
 .skip))
 (.seq (.ops [⟨some 5, none, .lits [] 0 []⟩,
 ⟨some 6, none, .mov (.tmp 0)⟩,
 ⟨some 7, none, .app 6 48 (.tmp 5) (.tmp 6)⟩,
 ⟨some 2, none, .mov (.tmp 7)⟩])
 .ret)))⟩
theorem ok54 : compF Tryd.prog Tryd.f54 = some c54 := by kernel_rfl
def c55 : CF := ⟨19, [.tmp 4, .tmp 5],
 (.seq (.ops [⟨some 2, none, .box (.tmp 0)⟩,
 ⟨some 4, none, .mov (.const (.int .i64 0))⟩,
 ⟨some 5, none, .mov (.const (.int .i64 0))⟩])
 (.seq (.seq (.ops [⟨some 6, none, .fad (.tmp 2) 0⟩,
 ⟨some 7, none, .ld1 (.tmp 6)⟩])
 (.block 0 (.seq (.block 2 (.seq (.block 1 (.seq (.seq (.seq (.ops [⟨some 9, none, .bin .eql (.tmp 7) (.const (.int .i64 11))⟩,
 ⟨some 8, none, .mov (.tmp 9)⟩])
 (.cond (.tmp 8)
 (.exit 1)
 .skip))
 (.seq (.ops [⟨some 11, none, .bin .eql (.tmp 7) (.const (.int .i64 8))⟩,
 ⟨some 10, none, .mov (.tmp 11)⟩])
 (.cond (.tmp 10)
 (.exit 2)
 .skip)))
 (.exit 0)))
 (.ops [⟨some 12, none, .fad (.tmp 2) 2⟩,
 ⟨some 13, none, .ld1 (.tmp 12)⟩,
 ⟨some 5, none, .mov (.tmp 13)⟩])))
 (.seq (.seq (.ops [⟨some 14, none, .mov (.tmp 1)⟩])
 (.cond (.tmp 14)
 (.ops [⟨some 15, none, .fad (.tmp 2) 2⟩,
 ⟨some 16, none, .ld1 (.tmp 15)⟩,
 ⟨some 4, none, .mov (.tmp 16)⟩])
 .skip))
 (.exit 0)))))
 (.seq (.ops [⟨some 17, none, .mov (.tmp 4)⟩,
 ⟨some 18, none, .mov (.tmp 5)⟩,
 ⟨some 4, none, .mov (.tmp 17)⟩,
 ⟨some 5, none, .mov (.tmp 18)⟩])
 .ret)))⟩
theorem ok55 : compF Tryd.prog Tryd.f55 = some c55 := by kernel_rfl
def c56 : CF := ⟨57, [.tmp 2],
 (.seq (.ops [⟨some 2, none, .mov (.const (.bool false))⟩])
 (.seq (.seq (.ops [⟨some 10, none, .mov (.tmp 0)⟩,
 ⟨some 11, none, .bin .eql (.tmp 10) (.const (.string ⟨#[]⟩))⟩,
 ⟨some 12, none, .mov (.tmp 11)⟩,
 ⟨some 13, (some (12, false)), .mov (.tmp 0)⟩,
 ⟨some 14, (some (12, false)), .lns (.tmp 13)⟩,
 ⟨some 15, (some (12, false)), .bin .gtr (.tmp 14) (.const (.int .i64 24))⟩,
 ⟨some 16, none, .pick (.tmp 12) (.const (.bool true)) (.tmp 15)⟩])
 (.cond (.tmp 16)
 (.seq (.ops [⟨some 2, none, .mov (.const (.bool false))⟩])
 .ret)
 .skip))
 (.seq (.ops [⟨some 17, none, .mov (.tmp 0)⟩,
 ⟨some 18, none, .call (.func 62) [(.tmp 17), (.const (.string ⟨#[43]⟩))]⟩,
 ⟨some 19, none, .call (.func 62) [(.tmp 18), (.const (.string ⟨#[45]⟩))]⟩,
 ⟨some 20, none, .call (.func 61) [(.tmp 19), (.const (.string ⟨#[48, 49, 50, 51, 52, 53, 54, 55, 56, 57]⟩))]⟩,
 ⟨some 3, none, .mov (.tmp 20)⟩])
 (.seq (.seq (.ops [⟨some 21, none, .mov (.tmp 3)⟩,
 ⟨some 22, none, .bin .eql (.tmp 21) (.const (.string ⟨#[]⟩))⟩,
 ⟨some 23, none, .mov (.tmp 22)⟩,
 ⟨some 24, (some (23, true)), .mov (.tmp 0)⟩,
 ⟨some 25, (some (23, true)), .call (.func 63) [(.tmp 24), (.const (.string ⟨#[48, 49, 50, 51, 52, 53, 54, 55, 56, 57]⟩))]⟩,
 ⟨some 26, none, .pick (.tmp 23) (.tmp 25) (.const (.bool false))⟩,
 ⟨some 27, none, .mov (.tmp 26)⟩,
 ⟨some 28, (some (27, true)), .mov (.tmp 0)⟩,
 ⟨some 29, (some (27, true)), .call (.func 64) [(.tmp 28), (.const (.string ⟨#[43, 45]⟩))]⟩,
 ⟨some 30, (some (27, true)), .un .not (.tmp 29)⟩,
 ⟨some 31, none, .pick (.tmp 27) (.tmp 30) (.const (.bool false))⟩])
 (.cond (.tmp 31)
 (.seq (.ops [⟨some 2, none, .mov (.const (.bool false))⟩])
 .ret)
 .skip))
 (.seq (.ops [⟨some 33, none, .mov (.tmp 0)⟩,
 ⟨some 34, none, .cvb (.tmp 33)⟩,
 ⟨some 35, none, .call (.func 65) [(.tmp 34)]⟩,
 ⟨some 32, none, .mov (.tmp 35)⟩,
 ⟨some 36, none, .ext (.tmp 32) 0⟩,
 ⟨some 37, none, .ext (.tmp 32) 1⟩,
 ⟨some 4, none, .mov (.tmp 36)⟩,
 ⟨some 5, none, .mov (.tmp 37)⟩])
 (.seq (.seq (.ops [⟨some 38, none, .mov (.tmp 5)⟩,
 ⟨some 39, none, .bin .neq (.tmp 38) (.const (.int .i64 0))⟩])
 (.cond (.tmp 39)
 (.seq (.ops [⟨some 2, none, .mov (.const (.bool false))⟩])
 .ret)
 .skip))
 (.seq (.seq (.ops [⟨some 40, none, .mov (.tmp 4)⟩,
 ⟨some 41, none, .lnl (.tmp 40)⟩,
 ⟨some 42, none, .mov (.const (.int .i64 0))⟩])
 (.block 0 (.loop (.seq (.ops [⟨some 43, none, .bin .lss (.tmp 42) (.tmp 41)⟩])
 (.seq (.cond (.tmp 43)
 .skip
 (.exit 0))
 (.seq (.block 1 (.seq (.ops [⟨some 44, none, .iad 1 (.tmp 40) (.tmp 42)⟩,
 ⟨some 45, none, .ld1 (.tmp 44)⟩,
 ⟨some 7, none, .mov (.tmp 45)⟩])
 (.seq (.ops [⟨some 47, none, .mov (.tmp 7)⟩,
 ⟨some 48, none, .call (.func 66) [(.tmp 47)]⟩,
 ⟨some 46, none, .mov (.tmp 48)⟩,
 ⟨some 49, none, .ext (.tmp 46) 0⟩,
 ⟨some 50, none, .ext (.tmp 46) 1⟩,
 ⟨some 8, none, .mov (.tmp 49)⟩,
 ⟨some 9, none, .mov (.tmp 50)⟩])
 (.seq (.ops [⟨some 51, none, .mov (.tmp 8)⟩])
 (.block 2 (.seq (.seq (.ops [⟨some 53, none, .bin .eql (.tmp 51) (.const (.int .i64 9))⟩,
 ⟨some 52, none, .mov (.tmp 53)⟩])
 (.cond (.tmp 52)
 .skip
 (.seq (.ops [⟨some 54, none, .bin .eql (.tmp 51) (.const (.int .i64 7))⟩,
 ⟨some 52, none, .mov (.tmp 54)⟩])
 (.cond (.tmp 52)
 .skip
 (.ops [⟨some 55, none, .bin .eql (.tmp 51) (.const (.int .i64 8))⟩,
 ⟨some 52, none, .mov (.tmp 55)⟩])))))
 (.cond (.tmp 52)
 .skip
 (.seq (.ops [⟨some 2, none, .mov (.const (.bool false))⟩])
 .ret))))))))
 (.ops [⟨some 56, none, .bin .add (.tmp 42) (.const (.int .i64 1))⟩,
 ⟨some 42, none, .mov (.tmp 56)⟩])))))))
 (.seq (.ops [⟨some 2, none, .mov (.const (.bool true))⟩])
 .ret))))))))⟩
theorem ok56 : compF Tryd.prog Tryd.f56 = some c56 := by kernel_rfl
def c57 : CF := ⟨25, [.tmp 5],
 (.seq (.ops [⟨some 5, none, .mov (.const (.int .i64 0))⟩])
 (.seq (.ops [⟨some 7, none, .mov (.tmp 0)⟩,
 ⟨some 8, none, .bin .add (.tmp 7) (.const (.int .i64 1))⟩,
 ⟨some 6, none, .mov (.tmp 8)⟩])
 (.seq (.seq (.ops [⟨some 9, none, .ld1 (.tmp 1)⟩,
 ⟨some 10, none, .mov (.tmp 0)⟩,
 ⟨some 11, none, .iad 6 (.tmp 9) (.tmp 10)⟩,
 ⟨some 12, none, .fad (.tmp 11) 1⟩,
 ⟨some 13, none, .ld1 (.tmp 12)⟩,
 ⟨some 14, none, .mov (.const (.int .i64 0))⟩])
 (.block 0 (.loop (.seq (.ops [⟨some 15, none, .bin .lss (.tmp 14) (.tmp 13)⟩])
 (.seq (.cond (.tmp 15)
 .skip
 (.exit 0))
 (.seq (.block 1 (.ops [⟨some 16, none, .ld1 (.tmp 2)⟩,
 ⟨some 17, none, .mov (.tmp 6)⟩,
 ⟨some 18, none, .call (.tmp 16) [(.tmp 17)]⟩,
 ⟨some 6, none, .mov (.tmp 18)⟩]))
 (.ops [⟨some 19, none, .bin .add (.tmp 14) (.const (.int .i64 1))⟩,
 ⟨some 14, none, .mov (.tmp 19)⟩])))))))
 (.seq (.ops [⟨some 20, none, .ld1 (.tmp 3)⟩,
 ⟨some 21, none, .mov (.tmp 0)⟩,
 ⟨some 22, none, .mov (.tmp 6)⟩,
 ⟨some 23, none, .iad 1 (.tmp 20) (.tmp 21)⟩,
 ⟨none, none, .st 1 (.tmp 23) (.tmp 22)⟩])
 (.seq (.ops [⟨some 24, none, .mov (.tmp 6)⟩,
 ⟨some 5, none, .mov (.tmp 24)⟩])
 .ret)))))⟩
theorem ok57 : compF Tryd.prog Tryd.f57 = some c57 := by kernel_rfl
def c58 : CF := ⟨26, [.tmp 6],
 (.seq (.ops [⟨some 6, none, .mov (.const (.slice none 0 0))⟩])
 (.seq (.ops [⟨some 7, none, .mov (.const (.slice none 0 0))⟩])
 (.seq (.seq (.ops [⟨some 9, none, .mov (.tmp 2)⟩,
 ⟨some 10, none, .bin .add (.tmp 9) (.const (.int .i64 1))⟩,
 ⟨some 8, none, .mov (.tmp 10)⟩])
 (.block 0 (.loop (.seq (.seq (.ops [⟨some 11, none, .mov (.tmp 8)⟩,
 ⟨some 12, none, .mov (.tmp 1)⟩,
 ⟨some 13, none, .mov (.tmp 2)⟩,
 ⟨some 14, none, .iad 1 (.tmp 12) (.tmp 13)⟩,
 ⟨some 15, none, .ld1 (.tmp 14)⟩,
 ⟨some 16, none, .bin .lss (.tmp 11) (.tmp 15)⟩])
 (.cond (.tmp 16)
 .skip
 (.exit 0)))
 (.seq (.block 1 (.ops [⟨some 21, none, .mov (.tmp 7)⟩,
 ⟨some 22, none, .mov (.tmp 8)⟩,
 ⟨some 23, none, .lits [(.int .i64 0)] 1 [(0, 1, (.tmp 22))]⟩,
 ⟨some 24, none, .app 1 8 (.tmp 21) (.tmp 23)⟩,
 ⟨some 7, none, .mov (.tmp 24)⟩]))
 (.ops [⟨some 17, none, .mov (.tmp 1)⟩,
 ⟨some 18, none, .mov (.tmp 8)⟩,
 ⟨some 19, none, .iad 1 (.tmp 17) (.tmp 18)⟩,
 ⟨some 20, none, .ld1 (.tmp 19)⟩,
 ⟨some 8, none, .mov (.tmp 20)⟩]))))))
 (.seq (.ops [⟨some 25, none, .mov (.tmp 7)⟩,
 ⟨some 6, none, .mov (.tmp 25)⟩])
 .ret))))⟩
theorem ok58 : compF Tryd.prog Tryd.f58 = some c58 := by kernel_rfl
def c59 : CF := ⟨19, [.tmp 2, .tmp 3],
 (.seq (.ops [⟨some 2, none, .mov (.const (.bool false))⟩,
 ⟨some 3, none, .mov (.const (.int .i64 0))⟩])
 (.seq (.seq (.ops [⟨some 7, none, .mov (.tmp 0)⟩,
 ⟨some 8, none, .call (.func 24) [(.tmp 7), (.const (.bool false))]⟩,
 ⟨some 6, none, .mov (.tmp 8)⟩,
 ⟨some 9, none, .ext (.tmp 6) 0⟩,
 ⟨some 10, none, .ext (.tmp 6) 1⟩,
 ⟨some 4, none, .mov (.tmp 9)⟩,
 ⟨some 5, none, .mov (.tmp 10)⟩])
 (.seq (.ops [⟨some 11, none, .mov (.tmp 5)⟩,
 ⟨some 12, none, .bin .eql (.tmp 11) (.const (.int .i64 0))⟩])
 (.cond (.tmp 12)
 (.seq (.ops [⟨some 2, none, .mov (.const (.bool false))⟩,
 ⟨some 3, none, .mov (.const (.int .i64 0))⟩])
 .ret)
 .skip)))
 (.seq (.ops [⟨some 14, none, .mov (.tmp 0)⟩,
 ⟨some 15, none, .call (.func 24) [(.tmp 14), (.const (.bool true))]⟩,
 ⟨some 13, none, .mov (.tmp 15)⟩,
 ⟨some 16, none, .ext (.tmp 13) 0⟩,
 ⟨some 17, none, .ext (.tmp 13) 1⟩,
 ⟨some 3, none, .mov (.tmp 17)⟩])
 (.seq (.ops [⟨some 18, none, .mov (.tmp 3)⟩,
 ⟨some 2, none, .mov (.const (.bool true))⟩,
 ⟨some 3, none, .mov (.tmp 18)⟩])
 .ret))))⟩
theorem ok59 : compF Tryd.prog Tryd.f59 = some c59 := by kernel_rfl
def c60 : CF := ⟨27, [.tmp 4],
 (.seq (.ops [⟨some 4, none, .mov (.const (.slice none 0 0))⟩])
 (.seq (.seq (.ops [⟨some 5, none, .mov (.tmp 1)⟩,
 ⟨some 6, none, .bin .lss (.tmp 5) (.const (.int .i64 0))⟩])
 (.cond (.tmp 6)
 (.ops [⟨some 7, none, .ifc 9 (.const (.string ⟨#[99, 97, 110, 110, 111, 116, 32, 98, 101, 32, 110, 101, 103, 97, 116, 105, 118, 101]⟩))⟩,
 ⟨none, none, .bad⟩])
 .skip))
 (.seq (.seq (.ops [⟨some 8, none, .mov (.tmp 1)⟩,
 ⟨some 9, none, .mov (.tmp 0)⟩,
 ⟨some 10, none, .cap (.tmp 9)⟩,
 ⟨some 11, none, .mov (.tmp 0)⟩,
 ⟨some 12, none, .lnl (.tmp 11)⟩,
 ⟨some 13, none, .bin .sub (.tmp 10) (.tmp 12)⟩,
 ⟨some 14, none, .bin .sub (.tmp 8) (.tmp 13)⟩,
 ⟨some 1, none, .mov (.tmp 14)⟩])
 (.seq (.ops [⟨some 15, none, .mov (.tmp 1)⟩,
 ⟨some 16, none, .bin .gtr (.tmp 15) (.const (.int .i64 0))⟩])
 (.cond (.tmp 16)
 (.ops [⟨some 17, none, .mov (.tmp 0)⟩,
 ⟨some 18, none, .mov (.tmp 0)⟩,
 ⟨some 19, none, .cap (.tmp 18)⟩,
 ⟨some 20, none, .sl 6 (.tmp 17) none (some (.tmp 19)) none⟩,
 ⟨some 21, none, .mov (.tmp 1)⟩,
 ⟨some 22, none, .apz 48 [(.int .i64 0), (.int .i64 0), (.int .i64 0), (.string ⟨#[]⟩), (.int .i32 0), (.int .i32 0)] (.tmp 20) (.tmp 21)⟩,
 ⟨some 23, none, .mov (.tmp 0)⟩,
 ⟨some 24, none, .lnl (.tmp 23)⟩,
 ⟨some 25, none, .sl 6 (.tmp 22) none (some (.tmp 24)) none⟩,
 ⟨some 0, none, .mov (.tmp 25)⟩])
 .skip)))
 (.seq (.ops [⟨some 26, none, .mov (.tmp 0)⟩,
 ⟨some 4, none, .mov (.tmp 26)⟩])
 .ret))))⟩
theorem ok60 : compF Tryd.prog Tryd.f60 = some c60 := by kernel_rfl
def c61 : CF := ⟨37, [.tmp 4],
 (.seq (.ops [⟨some 4, none, .mov (.const (.string ⟨#[]⟩))⟩])
 (.seq (.seq (.ops [⟨some 7, none, .mov (.tmp 0)⟩,
 ⟨some 8, none, .bin .eql (.tmp 7) (.const (.string ⟨#[]⟩))⟩,
 ⟨some 9, none, .mov (.tmp 8)⟩,
 ⟨some 10, (some (9, false)), .mov (.tmp 1)⟩,
 ⟨some 11, (some (9, false)), .bin .eql (.tmp 10) (.const (.string ⟨#[]⟩))⟩,
 ⟨some 12, none, .pick (.tmp 9) (.const (.bool true)) (.tmp 11)⟩])
 (.cond (.tmp 12)
 (.seq (.ops [⟨some 13, none, .mov (.tmp 0)⟩,
 ⟨some 4, none, .mov (.tmp 13)⟩])
 .ret)
 .skip))
 (.seq (.seq (.ops [⟨some 14, none, .mov (.tmp 1)⟩,
 ⟨some 15, none, .lns (.tmp 14)⟩,
 ⟨some 16, none, .bin .eql (.tmp 15) (.const (.int .i64 1))⟩,
 ⟨some 17, none, .mov (.tmp 16)⟩,
 ⟨some 18, (some (17, true)), .mov (.tmp 1)⟩,
 ⟨some 19, (some (17, true)), .ids (.tmp 18) (.const (.int .i64 0))⟩,
 ⟨some 20, (some (17, true)), .bin .lss (.tmp 19) (.const (.int .u8 128))⟩,
 ⟨some 21, none, .pick (.tmp 17) (.tmp 20) (.const (.bool false))⟩])
 (.cond (.tmp 21)
 (.seq (.ops [⟨some 22, none, .mov (.tmp 0)⟩,
 ⟨some 23, none, .mov (.tmp 1)⟩,
 ⟨some 24, none, .ids (.tmp 23) (.const (.int .i64 0))⟩,
 ⟨some 25, none, .call (.func 67) [(.tmp 22), (.tmp 24)]⟩,
 ⟨some 4, none, .mov (.tmp 25)⟩])
 .ret)
 .skip))
 (.seq (.seq (.ops [⟨some 27, none, .mov (.tmp 1)⟩,
 ⟨some 28, none, .call (.func 68) [(.tmp 27)]⟩,
 ⟨some 26, none, .mov (.tmp 28)⟩,
 ⟨some 29, none, .ext (.tmp 26) 0⟩,
 ⟨some 30, none, .ext (.tmp 26) 1⟩,
 ⟨some 5, none, .newz [(.bool false), (.bool false), (.bool false), (.bool false), (.bool false), (.bool false), (.bool false), (.bool false), (.bool false), (.bool false), (.bool false), (.bool false), (.bool false), (.bool false), (.bool false), (.bool false), (.bool false), (.bool false), (.bool false), (.bool false), (.bool false), (.bool false), (.bool false), (.bool false), (.bool false), (.bool false), (.bool false), (.bool false), (.bool false), (.bool false), (.bool false), (.bool false), (.bool false), (.bool false), (.bool false), (.bool false), (.bool false), (.bool false), (.bool false), (.bool false), (.bool false), (.bool false), (.bool false), (.bool false), (.bool false), (.bool false), (.bool false), (.bool false), (.bool false), (.bool false), (.bool false), (.bool false), (.bool false), (.bool false), (.bool false), (.bool false), (.bool false), (.bool false), (.bool false), (.bool false), (.bool false), (.bool false), (.bool false), (.bool false), (.bool false), (.bool false), (.bool false), (.bool false), (.bool false), (.bool false), (.bool false), (.bool false), (.bool false), (.bool false), (.bool false), (.bool false), (.bool false), (.bool false), (.bool false), (.bool false), (.bool false), (.bool false), (.bool false), (.bool false), (.bool false), (.bool false), (.bool false), (.bool false), (.bool false), (.bool false), (.bool false), (.bool false), (.bool false), (.bool false), (.bool false), (.bool false), (.bool false), (.bool false), (.bool false), (.bool false), (.bool false), (.bool false), (.bool false), (.bool false), (.bool false), (.bool false), (.bool false), (.bool false), (.bool false), (.bool false), (.bool false), (.bool false), (.bool false), (.bool false), (.bool false), (.bool false), (.bool false), (.bool false), (.bool false), (.bool false), (.bool false), (.bool false), (.bool false), (.bool false), (.bool false), (.bool false), (.bool false), (.bool false), (.bool false), (.bool false), (.bool false), (.bool false), (.bool false), (.bool false), (.bool false), (.bool false), (.bool false), (.bool false), (.bool false), (.bool false), (.bool false), (.bool false), (.bool false), (.bool false), (.bool false), (.bool false), (.bool false), (.bool false), (.bool false), (.bool false), (.bool false), (.bool false), (.bool false), (.bool false), (.bool false), (.bool false), (.bool false), (.bool false), (.bool false), (.bool false), (.bool false), (.bool false), (.bool false), (.bool false), (.bool false), (.bool false), (.bool false), (.bool false), (.bool false), (.bool false), (.bool false), (.bool false), (.bool false), (.bool false), (.bool false), (.bool false), (.bool false), (.bool false), (.bool false), (.bool false), (.bool false), (.bool false), (.bool false), (.bool false), (.bool false), (.bool false), (.bool false), (.bool false), (.bool false), (.bool false), (.bool false), (.bool false), (.bool false), (.bool false), (.bool false), (.bool false), (.bool false), (.bool false), (.bool false), (.bool false), (.bool false), (.bool false), (.bool false), (.bool false), (.bool false), (.bool false), (.bool false), (.bool false), (.bool false), (.bool false), (.bool false), (.bool false), (.bool false), (.bool false), (.bool false), (.bool false), (.bool false), (.bool false), (.bool false), (.bool false), (.bool false), (.bool false), (.bool false), (.bool false), (.bool false), (.bool false), (.bool false), (.bool false), (.bool false), (.bool false), (.bool false), (.bool false), (.bool false), (.bool false), (.bool false), (.bool false), (.bool false), (.bool false), (.bool false), (.bool false), (.bool false), (.bool false), (.bool false), (.bool false), (.bool false), (.bool false), (.bool false), (.bool false), (.bool false), (.bool false), (.bool false), (.bool false), (.bool false), (.bool false), (.bool false), (.bool false)]⟩,
 ⟨none, none, .st 256 (.tmp 5) (.tmp 29)⟩,
 ⟨some 6, none, .mov (.tmp 30)⟩])
 (.seq (.ops [⟨some 31, none, .mov (.tmp 6)⟩])
 (.cond (.tmp 31)
 (.seq (.ops [⟨some 32, none, .mov (.tmp 0)⟩,
 ⟨some 33, none, .call (.func 69) [(.tmp 32), (.tmp 5)]⟩,
 ⟨some 4, none, .mov (.tmp 33)⟩])
 .ret)
 .skip)))
 (.seq (.ops [⟨some 34, none, .mov (.tmp 0)⟩,
 ⟨some 35, none, .mov (.tmp 1)⟩,
 ⟨some 36, none, .call (.func 70) [(.tmp 34), (.tmp 35)]⟩,
 ⟨some 4, none, .mov (.tmp 36)⟩])
 .ret)))))⟩
theorem ok61 : compF Tryd.prog Tryd.f61 = some c61 := by kernel_rfl
def c62 : CF := ⟨8, [.tmp 4],
 (.seq (.ops [⟨some 4, none, .mov (.const (.string ⟨#[]⟩))⟩])
 (.seq (.ops [⟨some 5, none, .mov (.tmp 0)⟩,
 ⟨some 6, none, .mov (.tmp 1)⟩,
 ⟨some 7, none, .call (.func 71) [(.tmp 5), (.tmp 6)]⟩,
 ⟨some 4, none, .mov (.tmp 7)⟩])
 .ret))⟩
theorem ok62 : compF Tryd.prog Tryd.f62 = some c62 := by kernel_rfl
def c63 : CF := ⟨9, [.tmp 4],
 (.seq (.ops [⟨some 4, none, .mov (.const (.bool false))⟩])
 (.seq (.ops [⟨some 5, none, .mov (.tmp 0)⟩,
 ⟨some 6, none, .mov (.tmp 1)⟩,
 ⟨some 7, none, .call (.func 72) [(.tmp 5), (.tmp 6)]⟩,
 ⟨some 8, none, .bin .geq (.tmp 7) (.const (.int .i64 0))⟩,
 ⟨some 4, none, .mov (.tmp 8)⟩])
 .ret))⟩
theorem ok63 : compF Tryd.prog Tryd.f63 = some c63 := by kernel_rfl
def c64 : CF := ⟨8, [.tmp 4],
 (.seq (.ops [⟨some 4, none, .mov (.const (.bool false))⟩])
 (.seq (.ops [⟨some 5, none, .mov (.tmp 0)⟩,
 ⟨some 6, none, .mov (.tmp 1)⟩,
 ⟨some 7, none, .call (.func 73) [(.tmp 5), (.tmp 6)]⟩,
 ⟨some 4, none, .mov (.tmp 7)⟩])
 .ret))⟩
theorem ok64 : compF Tryd.prog Tryd.f64 = some c64 := by kernel_rfl
def c65 : CF := ⟨26, [.tmp 2, .tmp 3],
 (.seq (.ops [⟨some 2, none, .mov (.const (.slice none 0 0))⟩,
 ⟨some 3, none, .mov (.const (.int .i64 0))⟩])
 (.seq (.seq (.ops [⟨some 10, none, .mov (.tmp 0)⟩,
 ⟨some 11, none, .call (.func 74) [(.tmp 10)]⟩,
 ⟨some 9, none, .mov (.tmp 11)⟩,
 ⟨some 12, none, .ext (.tmp 9) 0⟩,
 ⟨some 13, none, .ext (.tmp 9) 1⟩,
 ⟨some 4, none, .mov (.tmp 12)⟩,
 ⟨some 5, none, .mov (.tmp 13)⟩])
 (.seq (.ops [⟨some 14, none, .mov (.tmp 5)⟩,
 ⟨some 15, none, .bin .neq (.tmp 14) (.const (.int .i64 0))⟩])
 (.cond (.tmp 15)
 (.seq (.ops [⟨some 16, none, .mov (.tmp 5)⟩,
 ⟨some 2, none, .mov (.const (.slice none 0 0))⟩,
 ⟨some 3, none, .mov (.tmp 16)⟩])
 .ret)
 .skip)))
 (.seq (.ops [⟨some 6, none, .newz [(.slice none 0 0)]⟩])
 (.seq (.seq (.ops [⟨some 17, none, .mov (.tmp 0)⟩,
 ⟨some 18, none, .call (.func 75) [(.tmp 17)]⟩])
 (.block 0 (.rangeF (.tmp 18) [19, 20]
 (.ops [⟨some 8, none, .mov (.tmp 20)⟩])
 (.block 1 (.ops [⟨some 21, none, .ld1 (.tmp 6)⟩,
 ⟨some 22, none, .mov (.tmp 8)⟩,
 ⟨some 23, none, .lits [(.int .i32 0)] 1 [(0, 1, (.tmp 22))]⟩,
 ⟨some 24, none, .app 1 4 (.tmp 21) (.tmp 23)⟩,
 ⟨none, none, .st 1 (.tmp 6) (.tmp 24)⟩])))))
 (.seq (.ops [⟨some 25, none, .ld1 (.tmp 6)⟩,
 ⟨some 2, none, .mov (.tmp 25)⟩,
 ⟨some 3, none, .mov (.const (.int .i64 0))⟩])
 .ret)))))⟩
theorem ok65 : compF Tryd.prog Tryd.f65 = some c65 := by kernel_rfl
def c66 : CF := ⟨42, [.tmp 2, .tmp 3],
 (.seq (.ops [⟨some 2, none, .mov (.const (.int .i64 0))⟩,
 ⟨some 3, none, .mov (.const (.int .i64 0))⟩])
 (.seq (.block 0 (.seq (.ops [⟨some 7, none, .mov (.tmp 0)⟩,
 ⟨some 8, none, .call (.func 76) [(.tmp 7)]⟩,
 ⟨some 9, none, .un .not (.tmp 8)⟩,
 ⟨some 6, none, .mov (.tmp 9)⟩])
 (.cond (.tmp 6)
 (.seq (.ops [⟨some 2, none, .mov (.const (.int .i64 0))⟩,
 ⟨some 3, none, .mov (.const (.int .i64 7))⟩])
 .ret)
 (.seq (.ops [⟨some 11, none, .mov (.tmp 0)⟩,
 ⟨some 12, none, .bin .geq (.tmp 11) (.const (.int .i32 48))⟩,
 ⟨some 13, none, .mov (.tmp 12)⟩,
 ⟨some 14, (some (13, true)), .mov (.tmp 0)⟩,
 ⟨some 15, (some (13, true)), .bin .leq (.tmp 14) (.const (.int .i32 57))⟩,
 ⟨some 16, none, .pick (.tmp 13) (.tmp 15) (.const (.bool false))⟩,
 ⟨some 10, none, .mov (.tmp 16)⟩])
 (.cond (.tmp 10)
 (.seq (.ops [⟨some 2, none, .mov (.const (.int .i64 7))⟩,
 ⟨some 3, none, .mov (.const (.int .i64 0))⟩])
 .ret)
 (.seq (.seq (.ops [⟨some 18, none, .mov (.tmp 0)⟩,
 ⟨some 19, none, .bin .geq (.tmp 18) (.const (.int .i32 97))⟩,
 ⟨some 20, none, .mov (.tmp 19)⟩,
 ⟨some 21, (some (20, true)), .mov (.tmp 0)⟩,
 ⟨some 22, (some (20, true)), .bin .leq (.tmp 21) (.const (.int .i32 122))⟩,
 ⟨some 23, none, .pick (.tmp 20) (.tmp 22) (.const (.bool false))⟩,
 ⟨some 17, none, .mov (.tmp 23)⟩])
 (.cond (.tmp 17)
 .skip
 (.seq (.ops [⟨some 24, none, .mov (.tmp 0)⟩,
 ⟨some 25, none, .bin .geq (.tmp 24) (.const (.int .i32 65))⟩,
 ⟨some 26, none, .mov (.tmp 25)⟩,
 ⟨some 27, (some (26, true)), .mov (.tmp 0)⟩,
 ⟨some 28, (some (26, true)), .bin .leq (.tmp 27) (.const (.int .i32 90))⟩,
 ⟨some 29, none, .pick (.tmp 26) (.tmp 28) (.const (.bool false))⟩,
 ⟨some 17, none, .mov (.tmp 29)⟩])
 (.cond (.tmp 17)
 .skip
 (.ops [⟨some 30, none, .mov (.tmp 0)⟩,
 ⟨some 31, none, .bin .gtr (.tmp 30) (.const (.int .i32 160))⟩,
 ⟨some 17, none, .mov (.tmp 31)⟩])))))
 (.cond (.tmp 17)
 (.seq (.ops [⟨some 2, none, .mov (.const (.int .i64 9))⟩,
 ⟨some 3, none, .mov (.const (.int .i64 0))⟩])
 .ret)
 .skip)))))))
 (.seq (.seq (.ops [⟨some 32, none, .call (.func 77) []⟩,
 ⟨some 33, none, .mov (.const (.int .i64 0))⟩])
 (.block 1 (.loop (.seq (.ops [⟨some 34, none, .bin .lss (.tmp 33) (.const (.int .i64 10))⟩])
 (.seq (.cond (.tmp 34)
 .skip
 (.exit 1))
 (.seq (.block 2 (.seq (.ops [⟨some 35, none, .mov (.tmp 33)⟩,
 ⟨some 36, none, .ida1 10 1 (.tmp 32) (.tmp 33)⟩,
 ⟨some 4, none, .mov (.tmp 35)⟩,
 ⟨some 5, none, .mov (.tmp 36)⟩])
 (.seq (.ops [⟨some 37, none, .mov (.tmp 5)⟩,
 ⟨some 38, none, .mov (.tmp 0)⟩,
 ⟨some 39, none, .call (.func 78) [(.tmp 37), (.tmp 38)]⟩])
 (.cond (.tmp 39)
 (.seq (.ops [⟨some 40, none, .mov (.tmp 4)⟩,
 ⟨some 2, none, .mov (.tmp 40)⟩,
 ⟨some 3, none, .mov (.const (.int .i64 0))⟩])
 .ret)
 .skip))))
 (.ops [⟨some 41, none, .bin .add (.tmp 33) (.const (.int .i64 1))⟩,
 ⟨some 33, none, .mov (.tmp 41)⟩])))))))
 (.seq (.ops [⟨some 2, none, .mov (.const (.int .i64 10))⟩,
 ⟨some 3, none, .mov (.const (.int .i64 0))⟩])
 .ret))))⟩
theorem ok66 : compF Tryd.prog Tryd.f66 = some c66 := by kernel_rfl
def c67 : CF := ⟨17, [.tmp 4],
 (.seq (.ops [⟨some 4, none, .mov (.const (.string ⟨#[]⟩))⟩])
 (.seq (.block 0 (.loop (.seq (.seq (.ops [⟨some 5, none, .mov (.tmp 0)⟩,
 ⟨some 6, none, .lns (.tmp 5)⟩,
 ⟨some 7, none, .bin .gtr (.tmp 6) (.const (.int .i64 0))⟩,
 ⟨some 8, none, .mov (.tmp 7)⟩,
 ⟨some 9, (some (8, true)), .mov (.tmp 0)⟩,
 ⟨some 10, (some (8, true)), .ids (.tmp 9) (.const (.int .i64 0))⟩,
 ⟨some 11, (some (8, true)), .mov (.tmp 1)⟩,
 ⟨some 12, (some (8, true)), .bin .eql (.tmp 10) (.tmp 11)⟩,
 ⟨some 13, none, .pick (.tmp 8) (.tmp 12) (.const (.bool false))⟩])
 (.cond (.tmp 13)
 .skip
 (.exit 0)))
 (.block 1 (.ops [⟨some 14, none, .mov (.tmp 0)⟩,
 ⟨some 15, none, .sls (.tmp 14) (some (.const (.int .i64 1))) none⟩,
 ⟨some 0, none, .mov (.tmp 15)⟩])))))
 (.seq (.ops [⟨some 16, none, .mov (.tmp 0)⟩,
 ⟨some 4, none, .mov (.tmp 16)⟩])
 .ret)))⟩
theorem ok67 : compF Tryd.prog Tryd.f67 = some c67 := by kernel_rfl
def c68 : CF := ⟨21, [.cells 2 256, .tmp 3],
 (.seq (.ops [⟨some 2, none, .newz [(.bool false), (.bool false), (.bool false), (.bool false), (.bool false), (.bool false), (.bool false), (.bool false), (.bool false), (.bool false), (.bool false), (.bool false), (.bool false), (.bool false), (.bool false), (.bool false), (.bool false), (.bool false), (.bool false), (.bool false), (.bool false), (.bool false), (.bool false), (.bool false), (.bool false), (.bool false), (.bool false), (.bool false), (.bool false), (.bool false), (.bool false), (.bool false), (.bool false), (.bool false), (.bool false), (.bool false), (.bool false), (.bool false), (.bool false), (.bool false), (.bool false), (.bool false), (.bool false), (.bool false), (.bool false), (.bool false), (.bool false), (.bool false), (.bool false), (.bool false), (.bool false), (.bool false), (.bool false), (.bool false), (.bool false), (.bool false), (.bool false), (.bool false), (.bool false), (.bool false), (.bool false), (.bool false), (.bool false), (.bool false), (.bool false), (.bool false), (.bool false), (.bool false), (.bool false), (.bool false), (.bool false), (.bool false), (.bool false), (.bool false), (.bool false), (.bool false), (.bool false), (.bool false), (.bool false), (.bool false), (.bool false), (.bool false), (.bool false), (.bool false), (.bool false), (.bool false), (.bool false), (.bool false), (.bool false), (.bool false), (.bool false), (.bool false), (.bool false), (.bool false), (.bool false), (.bool false), (.bool false), (.bool false), (.bool false), (.bool false), (.bool false), (.bool false), (.bool false), (.bool false), (.bool false), (.bool false), (.bool false), (.bool false), (.bool false), (.bool false), (.bool false), (.bool false), (.bool false), (.bool false), (.bool false), (.bool false), (.bool false), (.bool false), (.bool false), (.bool false), (.bool false), (.bool false), (.bool false), (.bool false), (.bool false), (.bool false), (.bool false), (.bool false), (.bool false), (.bool false), (.bool false), (.bool false), (.bool false), (.bool false), (.bool false), (.bool false), (.bool false), (.bool false), (.bool false), (.bool false), (.bool false), (.bool false), (.bool false), (.bool false), (.bool false), (.bool false), (.bool false), (.bool false), (.bool false), (.bool false), (.bool false), (.bool false), (.bool false), (.bool false), (.bool false), (.bool false), (.bool false), (.bool false), (.bool false), (.bool false), (.bool false), (.bool false), (.bool false), (.bool false), (.bool false), (.bool false), (.bool false), (.bool false), (.bool false), (.bool false), (.bool false), (.bool false), (.bool false), (.bool false), (.bool false), (.bool false), (.bool false), (.bool false), (.bool false), (.bool false), (.bool false), (.bool false), (.bool false), (.bool false), (.bool false), (.bool false), (.bool false), (.bool false), (.bool false), (.bool false), (.bool false), (.bool false), (.bool false), (.bool false), (.bool false), (.bool false), (.bool false), (.bool false), (.bool false), (.bool false), (.bool false), (.bool false), (.bool false), (.bool false), (.bool false), (.bool false), (.bool false), (.bool false), (.bool false), (.bool false), (.bool false), (.bool false), (.bool false), (.bool false), (.bool false), (.bool false), (.bool false), (.bool false), (.bool false), (.bool false), (.bool false), (.bool false), (.bool false), (.bool false), (.bool false), (.bool false), (.bool false), (.bool false), (.bool false), (.bool false), (.bool false), (.bool false), (.bool false), (.bool false), (.bool false), (.bool false), (.bool false), (.bool false), (.bool false), (.bool false), (.bool false), (.bool false), (.bool false), (.bool false), (.bool false), (.bool false), (.bool false), (.bool false), (.bool false), (.bool false), (.bool false), (.bool false), (.bool false), (.bool false), (.bool false), (.bool false)]⟩,
 ⟨some 3, none, .mov (.const (.bool false))⟩])
 (.seq (.seq (.ops [⟨some 4, none, .mov (.const (.int .i64 0))⟩])
 (.block 0 (.loop (.seq (.seq (.ops [⟨some 6, none, .mov (.tmp 4)⟩,
 ⟨some 7, none, .mov (.tmp 0)⟩,
 ⟨some 8, none, .lns (.tmp 7)⟩,
 ⟨some 9, none, .bin .lss (.tmp 6) (.tmp 8)⟩])
 (.cond (.tmp 9)
 .skip
 (.exit 0)))
 (.seq (.block 1 (.seq (.ops [⟨some 12, none, .mov (.tmp 0)⟩,
 ⟨some 13, none, .mov (.tmp 4)⟩,
 ⟨some 14, none, .ids (.tmp 12) (.tmp 13)⟩,
 ⟨some 5, none, .mov (.tmp 14)⟩])
 (.seq (.seq (.ops [⟨some 15, none, .mov (.tmp 5)⟩,
 ⟨some 16, none, .bin .geq (.tmp 15) (.const (.int .u8 128))⟩])
 (.cond (.tmp 16)
 (.seq (.ops [⟨some 17, none, .ld 256 (.tmp 2)⟩,
 ⟨none, none, .st 256 (.tmp 2) (.tmp 17)⟩,
 ⟨some 3, none, .mov (.const (.bool false))⟩])
 .ret)
 .skip))
 (.ops [⟨some 18, none, .mov (.tmp 5)⟩,
 ⟨some 19, none, .iaa 256 1 (.tmp 2) (.tmp 18)⟩,
 ⟨none, none, .st 1 (.tmp 19) (.const (.bool true))⟩]))))
 (.ops [⟨some 10, none, .mov (.tmp 4)⟩,
 ⟨some 11, none, .bin .add (.tmp 10) (.const (.int .i64 1))⟩,
 ⟨some 4, none, .mov (.tmp 11)⟩]))))))
 (.seq (.ops [⟨some 20, none, .ld 256 (.tmp 2)⟩,
 ⟨none, none, .st 256 (.tmp 2) (.tmp 20)⟩,
 ⟨some 3, none, .mov (.const (.bool true))⟩])
 .ret)))⟩
theorem ok68 : compF Tryd.prog Tryd.f68 = some c68 := by kernel_rfl
def c69 : CF := ⟨16, [.tmp 4],
 (.seq (.ops [⟨some 4, none, .mov (.const (.string ⟨#[]⟩))⟩])
 (.seq (.block 0 (.loop (.seq (.seq (.ops [⟨some 5, none, .mov (.tmp 0)⟩,
 ⟨some 6, none, .lns (.tmp 5)⟩,
 ⟨some 7, none, .bin .gtr (.tmp 6) (.const (.int .i64 0))⟩])
 (.cond (.tmp 7)
 .skip
 (.exit 0)))
 (.block 1 (.seq (.seq (.ops [⟨some 8, none, .mov (.tmp 1)⟩,
 ⟨some 9, none, .mov (.tmp 0)⟩,
 ⟨some 10, none, .ids (.tmp 9) (.const (.int .i64 0))⟩,
 ⟨some 11, none, .call (.func 79) [(.tmp 8), (.tmp 10)]⟩,
 ⟨some 12, none, .un .not (.tmp 11)⟩])
 (.cond (.tmp 12)
 (.exit 0)
 .skip))
 (.ops [⟨some 13, none, .mov (.tmp 0)⟩,
 ⟨some 14, none, .sls (.tmp 13) (some (.const (.int .i64 1))) none⟩,
 ⟨some 0, none, .mov (.tmp 14)⟩]))))))
 (.seq (.ops [⟨some 15, none, .mov (.tmp 0)⟩,
 ⟨some 4, none, .mov (.tmp 15)⟩])
 .ret)))⟩
theorem ok69 : compF Tryd.prog Tryd.f69 = some c69 := by kernel_rfl
def c70 : CF := ⟨23, [.tmp 4],
 (.seq (.ops [⟨some 4, none, .mov (.const (.string ⟨#[]⟩))⟩])
 (.seq (.block 0 (.loop (.seq (.seq (.ops [⟨some 7, none, .mov (.tmp 0)⟩,
 ⟨some 8, none, .lns (.tmp 7)⟩,
 ⟨some 9, none, .bin .gtr (.tmp 8) (.const (.int .i64 0))⟩])
 (.cond (.tmp 9)
 .skip
 (.exit 0)))
 (.block 1 (.seq (.ops [⟨some 11, none, .mov (.tmp 0)⟩,
 ⟨some 12, none, .call (.func 80) [(.tmp 11)]⟩,
 ⟨some 10, none, .mov (.tmp 12)⟩,
 ⟨some 13, none, .ext (.tmp 10) 0⟩,
 ⟨some 14, none, .ext (.tmp 10) 1⟩,
 ⟨some 5, none, .mov (.tmp 13)⟩,
 ⟨some 6, none, .mov (.tmp 14)⟩])
 (.seq (.seq (.ops [⟨some 15, none, .mov (.tmp 1)⟩,
 ⟨some 16, none, .mov (.tmp 5)⟩,
 ⟨some 17, none, .call (.func 81) [(.tmp 15), (.tmp 16)]⟩,
 ⟨some 18, none, .un .not (.tmp 17)⟩])
 (.cond (.tmp 18)
 (.exit 0)
 .skip))
 (.ops [⟨some 19, none, .mov (.tmp 0)⟩,
 ⟨some 20, none, .mov (.tmp 6)⟩,
 ⟨some 21, none, .sls (.tmp 19) (some (.tmp 20)) none⟩,
 ⟨some 0, none, .mov (.tmp 21)⟩])))))))
 (.seq (.ops [⟨some 22, none, .mov (.tmp 0)⟩,
 ⟨some 4, none, .mov (.tmp 22)⟩])
 .ret)))⟩
theorem ok70 : compF Tryd.prog Tryd.f70 = some c70 := by kernel_rfl
def c71 : CF := ⟨13, [.tmp 4],
 (.seq (.ops [⟨some 4, none, .mov (.const (.string ⟨#[]⟩))⟩])
 (.seq (.seq (.ops [⟨some 5, none, .mov (.tmp 0)⟩,
 ⟨some 6, none, .mov (.tmp 1)⟩,
 ⟨some 7, none, .call (.func 73) [(.tmp 5), (.tmp 6)]⟩])
 (.cond (.tmp 7)
 (.seq (.ops [⟨some 8, none, .mov (.tmp 0)⟩,
 ⟨some 9, none, .mov (.tmp 1)⟩,
 ⟨some 10, none, .lns (.tmp 9)⟩,
 ⟨some 11, none, .sls (.tmp 8) (some (.tmp 10)) none⟩,
 ⟨some 4, none, .mov (.tmp 11)⟩])
 .ret)
 .skip))
 (.seq (.ops [⟨some 12, none, .mov (.tmp 0)⟩,
 ⟨some 4, none, .mov (.tmp 12)⟩])
 .ret)))⟩
theorem ok71 : compF Tryd.prog Tryd.f71 = some c71 := by kernel_rfl
def c72 : CF := ⟨55, [.tmp 4],
 (.seq (.ops [⟨some 4, none, .mov (.const (.int .i64 0))⟩])
 (.seq (.seq (.ops [⟨some 11, none, .mov (.tmp 1)⟩,
 ⟨some 12, none, .bin .eql (.tmp 11) (.const (.string ⟨#[]⟩))⟩])
 (.cond (.tmp 12)
 (.seq (.ops [⟨some 4, none, .mov (.const (.int .i64 (-1)))⟩])
 .ret)
 .skip))
 (.seq (.seq (.ops [⟨some 13, none, .mov (.tmp 1)⟩,
 ⟨some 14, none, .lns (.tmp 13)⟩,
 ⟨some 15, none, .bin .eql (.tmp 14) (.const (.int .i64 1))⟩])
 (.cond (.tmp 15)
 (.seq (.ops [⟨some 16, none, .mov (.tmp 1)⟩,
 ⟨some 17, none, .ids (.tmp 16) (.const (.int .i64 0))⟩,
 ⟨some 18, none, .cvi .i32 (.tmp 17)⟩,
 ⟨some 5, none, .mov (.tmp 18)⟩])
 (.seq (.seq (.ops [⟨some 19, none, .mov (.tmp 5)⟩,
 ⟨some 20, none, .bin .geq (.tmp 19) (.const (.int .i32 128))⟩])
 (.cond (.tmp 20)
 (.ops [⟨some 5, none, .mov (.const (.int .i32 65533))⟩])
 .skip))
 (.seq (.ops [⟨some 21, none, .mov (.tmp 0)⟩,
 ⟨some 22, none, .mov (.tmp 5)⟩,
 ⟨some 23, none, .call (.func 82) [(.tmp 21), (.tmp 22)]⟩,
 ⟨some 4, none, .mov (.tmp 23)⟩])
 .ret)))
 .skip))
 (.seq (.seq (.ops [⟨some 24, none, .mov (.tmp 0)⟩,
 ⟨some 25, none, .lns (.tmp 24)⟩,
 ⟨some 26, none, .call (.func 83) [(.tmp 25)]⟩])
 (.cond (.tmp 26)
 (.seq (.ops [⟨some 28, none, .mov (.tmp 1)⟩,
 ⟨some 29, none, .call (.func 68) [(.tmp 28)]⟩,
 ⟨some 27, none, .mov (.tmp 29)⟩,
 ⟨some 30, none, .ext (.tmp 27) 0⟩,
 ⟨some 31, none, .ext (.tmp 27) 1⟩,
 ⟨some 6, none, .newz [(.bool false), (.bool false), (.bool false), (.bool false), (.bool false), (.bool false), (.bool false), (.bool false), (.bool false), (.bool false), (.bool false), (.bool false), (.bool false), (.bool false), (.bool false), (.bool false), (.bool false), (.bool false), (.bool false), (.bool false), (.bool false), (.bool false), (.bool false), (.bool false), (.bool false), (.bool false), (.bool false), (.bool false), (.bool false), (.bool false), (.bool false), (.bool false), (.bool false), (.bool false), (.bool false), (.bool false), (.bool false), (.bool false), (.bool false), (.bool false), (.bool false), (.bool false), (.bool false), (.bool false), (.bool false), (.bool false), (.bool false), (.bool false), (.bool false), (.bool false), (.bool false), (.bool false), (.bool false), (.bool false), (.bool false), (.bool false), (.bool false), (.bool false), (.bool false), (.bool false), (.bool false), (.bool false), (.bool false), (.bool false), (.bool false), (.bool false), (.bool false), (.bool false), (.bool false), (.bool false), (.bool false), (.bool false), (.bool false), (.bool false), (.bool false), (.bool false), (.bool false), (.bool false), (.bool false), (.bool false), (.bool false), (.bool false), (.bool false), (.bool false), (.bool false), (.bool false), (.bool false), (.bool false), (.bool false), (.bool false), (.bool false), (.bool false), (.bool false), (.bool false), (.bool false), (.bool false), (.bool false), (.bool false), (.bool false), (.bool false), (.bool false), (.bool false), (.bool false), (.bool false), (.bool false), (.bool false), (.bool false), (.bool false), (.bool false), (.bool false), (.bool false), (.bool false), (.bool false), (.bool false), (.bool false), (.bool false), (.bool false), (.bool false), (.bool false), (.bool false), (.bool false), (.bool false), (.bool false), (.bool false), (.bool false), (.bool false), (.bool false), (.bool false), (.bool false), (.bool false), (.bool false), (.bool false), (.bool false), (.bool false), (.bool false), (.bool false), (.bool false), (.bool false), (.bool false), (.bool false), (.bool false), (.bool false), (.bool false), (.bool false), (.bool false), (.bool false), (.bool false), (.bool false), (.bool false), (.bool false), (.bool false), (.bool false), (.bool false), (.bool false), (.bool false), (.bool false), (.bool false), (.bool false), (.bool false), (.bool false), (.bool false), (.bool false), (.bool false), (.bool false), (.bool false), (.bool false), (.bool false), (.bool false), (.bool false), (.bool false), (.bool false), (.bool false), (.bool false), (.bool false), (.bool false), (.bool false), (.bool false), (.bool false), (.bool false), (.bool false), (.bool false), (.bool false), (.bool false), (.bool false), (.bool false), (.bool false), (.bool false), (.bool false), (.bool false), (.bool false), (.bool false), (.bool false), (.bool false), (.bool false), (.bool false), (.bool false), (.bool false), (.bool false), (.bool false), (.bool false), (.bool false), (.bool false), (.bool false), (.bool false), (.bool false), (.bool false), (.bool false), (.bool false), (.bool false), (.bool false), (.bool false), (.bool false), (.bool false), (.bool false), (.bool false), (.bool false), (.bool false), (.bool false), (.bool false), (.bool false), (.bool false), (.bool false), (.bool false), (.bool false), (.bool false), (.bool false), (.bool false), (.bool false), (.bool false), (.bool false), (.bool false), (.bool false), (.bool false), (.bool false), (.bool false), (.bool false), (.bool false), (.bool false), (.bool false), (.bool false), (.bool false), (.bool false), (.bool false), (.bool false), (.bool false), (.bool false), (.bool false), (.bool false), (.bool false), (.bool false), (.bool false), (.bool false), (.bool false), (.bool false), (.bool false), (.bool false)]⟩,
 ⟨none, none, .st 256 (.tmp 6) (.tmp 30)⟩,
 ⟨some 7, none, .mov (.tmp 31)⟩])
 (.seq (.ops [⟨some 32, none, .mov (.tmp 7)⟩])
 (.cond (.tmp 32)
 (.seq (.seq (.ops [⟨some 8, none, .mov (.const (.int .i64 0))⟩])
 (.block 0 (.loop (.seq (.seq (.ops [⟨some 33, none, .mov (.tmp 8)⟩,
 ⟨some 34, none, .mov (.tmp 0)⟩,
 ⟨some 35, none, .lns (.tmp 34)⟩,
 ⟨some 36, none, .bin .lss (.tmp 33) (.tmp 35)⟩])
 (.cond (.tmp 36)
 .skip
 (.exit 0)))
 (.seq (.block 1 (.seq (.ops [⟨some 39, none, .mov (.tmp 0)⟩,
 ⟨some 40, none, .mov (.tmp 8)⟩,
 ⟨some 41, none, .ids (.tmp 39) (.tmp 40)⟩,
 ⟨some 42, none, .call (.func 79) [(.tmp 6), (.tmp 41)]⟩])
 (.cond (.tmp 42)
 (.seq (.ops [⟨some 43, none, .mov (.tmp 8)⟩,
 ⟨some 4, none, .mov (.tmp 43)⟩])
 .ret)
 .skip)))
 (.ops [⟨some 37, none, .mov (.tmp 8)⟩,
 ⟨some 38, none, .bin .add (.tmp 37) (.const (.int .i64 1))⟩,
 ⟨some 8, none, .mov (.tmp 38)⟩]))))))
 (.seq (.ops [⟨some 4, none, .mov (.const (.int .i64 (-1)))⟩])
 .ret))
 .skip)))
 .skip))
 (.seq (.seq (.ops [⟨some 44, none, .mov (.tmp 0)⟩,
 ⟨some 45, none, .itr (.tmp 44)⟩])
 (.block 2 (.loop (.seq (.ops [⟨some 46, none, .nxt (.tmp 45)⟩,
 ⟨some 47, none, .ext (.tmp 46) 0⟩])
 (.seq (.cond (.tmp 47)
 .skip
 (.exit 2))
 (.block 3 (.seq (.ops [⟨some 48, none, .ext (.tmp 46) 1⟩,
 ⟨some 49, none, .ext (.tmp 46) 2⟩,
 ⟨some 9, none, .mov (.tmp 48)⟩,
 ⟨some 10, none, .mov (.tmp 49)⟩])
 (.seq (.ops [⟨some 50, none, .mov (.tmp 1)⟩,
 ⟨some 51, none, .mov (.tmp 10)⟩,
 ⟨some 52, none, .call (.func 82) [(.tmp 50), (.tmp 51)]⟩,
 ⟨some 53, none, .bin .geq (.tmp 52) (.const (.int .i64 0))⟩])
 (.cond (.tmp 53)
 (.seq (.ops [⟨some 54, none, .mov (.tmp 9)⟩,
 ⟨some 4, none, .mov (.tmp 54)⟩])
 .ret)
 .skip)))))))))
 (.seq (.ops [⟨some 4, none, .mov (.const (.int .i64 (-1)))⟩])
 .ret))))))⟩
theorem ok72 : compF Tryd.prog Tryd.f72 = some c72 := by kernel_rfl
def c73 : CF := ⟨18, [.tmp 4],
 (.seq (.ops [⟨some 4, none, .mov (.const (.bool false))⟩])
 (.seq (.ops [⟨some 5, none, .mov (.tmp 0)⟩,
 ⟨some 6, none, .lns (.tmp 5)⟩,
 ⟨some 7, none, .mov (.tmp 1)⟩,
 ⟨some 8, none, .lns (.tmp 7)⟩,
 ⟨some 9, none, .bin .geq (.tmp 6) (.tmp 8)⟩,
 ⟨some 10, none, .mov (.tmp 9)⟩,
 ⟨some 11, (some (10, true)), .mov (.tmp 0)⟩,
 ⟨some 12, (some (10, true)), .mov (.tmp 1)⟩,
 ⟨some 13, (some (10, true)), .lns (.tmp 12)⟩,
 ⟨some 14, (some (10, true)), .sls (.tmp 11) none (some (.tmp 13))⟩,
 ⟨some 15, (some (10, true)), .mov (.tmp 1)⟩,
 ⟨some 16, (some (10, true)), .bin .eql (.tmp 14) (.tmp 15)⟩,
 ⟨some 17, none, .pick (.tmp 10) (.tmp 16) (.const (.bool false))⟩,
 ⟨some 4, none, .mov (.tmp 17)⟩])
 .ret))⟩
theorem ok73 : compF Tryd.prog Tryd.f73 = some c73 := by kernel_rfl
def c74 : CF := ⟨30, [.cell1 2, .tmp 3],
 (.seq (.ops [⟨some 2, none, .newz [(.int .i64 0)]⟩,
 ⟨some 3, none, .mov (.const (.int .i64 0))⟩])
 (.seq (.seq (.ops [⟨some 6, none, .mov (.tmp 0)⟩,
 ⟨some 7, none, .lnl (.tmp 6)⟩,
 ⟨some 8, none, .bin .gtr (.tmp 7) (.const (.int .i64 8000))⟩])
 (.cond (.tmp 8)
 (.seq (.ops [⟨none, none, .st 1 (.tmp 2) (.const (.int .i64 0))⟩,
 ⟨some 3, none, .mov (.const (.int .i64 3))⟩])
 .ret)
 .skip))
 (.seq (.seq (.ops [⟨some 9, none, .mov (.tmp 0)⟩,
 ⟨some 10, none, .call (.func 75) [(.tmp 9)]⟩])
 (.block 0 (.rangeF (.tmp 10) [11, 12]
 (.seq (.ops [⟨some 4, none, .mov (.tmp 11)⟩])
 (.ops [⟨some 5, none, .mov (.tmp 12)⟩]))
 (.block 1 (.ops [⟨some 13, none, .mov (.tmp 4)⟩,
 ⟨some 14, none, .mov (.tmp 5)⟩,
 ⟨some 15, none, .call (.func 84) [(.tmp 14)]⟩,
 ⟨some 16, none, .bin .add (.tmp 13) (.tmp 15)⟩,
 ⟨none, none, .st 1 (.tmp 2) (.tmp 16)⟩])))))
 (.seq (.seq (.ops [⟨some 17, none, .ld1 (.tmp 2)⟩,
 ⟨some 18, none, .mov (.tmp 0)⟩,
 ⟨some 19, none, .lnl (.tmp 18)⟩,
 ⟨some 20, none, .bin .lss (.tmp 17) (.tmp 19)⟩])
 (.cond (.tmp 20)
 (.ops [⟨some 22, none, .mov (.tmp 0)⟩,
 ⟨some 23, none, .ld1 (.tmp 2)⟩,
 ⟨some 24, none, .call (.func 85) [(.tmp 22), (.tmp 23)]⟩,
 ⟨some 21, none, .mov (.tmp 24)⟩,
 ⟨some 25, none, .ext (.tmp 21) 0⟩,
 ⟨some 26, none, .ext (.tmp 21) 1⟩,
 ⟨some 27, none, .ext (.tmp 21) 2⟩,
 ⟨some 3, none, .mov (.tmp 27)⟩])
 .skip))
 (.seq (.ops [⟨some 28, none, .ld1 (.tmp 2)⟩,
 ⟨some 29, none, .mov (.tmp 3)⟩,
 ⟨none, none, .st 1 (.tmp 2) (.tmp 28)⟩,
 ⟨some 3, none, .mov (.tmp 29)⟩])
 .ret)))))⟩
theorem ok74 : compF Tryd.prog Tryd.f74 = some c74 := by kernel_rfl
def c75 : CF := ⟨4, [.tmp 2],
 (.seq (.ops [⟨some 1, none, .box (.tmp 0)⟩,
 ⟨some 2, none, .mov (.const .nilFunc)⟩])
 (.seq (.ops [⟨some 3, none, .fn 86 [] [(.tmp 1)]⟩,
 ⟨some 2, none, .mov (.tmp 3)⟩])
 .ret))⟩
theorem ok75 : compF Tryd.prog Tryd.f75 = some c75 := by kernel_rfl
def c76 : CF := ⟨5, [.tmp 2],
 (.seq (.ops [⟨some 2, none, .mov (.const (.bool false))⟩])
 (.seq (.ops [⟨some 3, none, .mov (.tmp 0)⟩,
 ⟨some 4, none, .call (.func 87) [(.tmp 3)]⟩,
 ⟨some 2, none, .mov (.tmp 4)⟩])
 .ret))⟩
theorem ok76 : compF Tryd.prog Tryd.f76 = some c76 := by kernel_rfl
def c77 : CF := ⟨2, [.cells 0 10],
 (.seq (.ops [⟨some 0, none, .newz [(.string ⟨#[]⟩), (.string ⟨#[]⟩), (.string ⟨#[]⟩), (.string ⟨#[]⟩), (.string ⟨#[]⟩), (.string ⟨#[]⟩), (.string ⟨#[]⟩), (.string ⟨#[]⟩), (.string ⟨#[]⟩), (.string ⟨#[]⟩)]⟩])
 (.seq (.ops [⟨some 1, none, .agg [(.string ⟨#[]⟩), (.string ⟨#[]⟩), (.string ⟨#[]⟩), (.string ⟨#[]⟩), (.string ⟨#[]⟩), (.string ⟨#[]⟩), (.string ⟨#[]⟩), (.string ⟨#[]⟩), (.string ⟨#[]⟩), (.string ⟨#[]⟩)] [(1, 1, (.const (.string ⟨#[9, 10, 13, 32]⟩))), (2, 1, (.const (.string ⟨#[40, 91]⟩))), (3, 1, (.const (.string ⟨#[41, 93]⟩))), (4, 1, (.const (.string ⟨#[39]⟩))), (5, 1, (.const (.string ⟨#[35]⟩))), (6, 1, (.const (.string ⟨#[59]⟩))), (8, 1, (.const (.string ⟨#[43, 45]⟩))), (9, 1, (.const (.string ⟨#[33, 36, 37, 38, 42, 47, 58, 60, 61, 62, 63, 94, 95, 126, 46, 64]⟩)))]⟩,
 ⟨none, none, .st 10 (.tmp 0) (.tmp 1)⟩])
 .ret))⟩
theorem ok77 : compF Tryd.prog Tryd.f77 = some c77 := by kernel_rfl
def c78 : CF := ⟨15, [.tmp 4],
 (.seq (.ops [⟨some 4, none, .mov (.const (.bool false))⟩])
 (.seq (.seq (.ops [⟨some 7, none, .mov (.tmp 0)⟩,
 ⟨some 8, none, .itr (.tmp 7)⟩])
 (.block 0 (.loop (.seq (.ops [⟨some 9, none, .nxt (.tmp 8)⟩,
 ⟨some 10, none, .ext (.tmp 9) 0⟩])
 (.seq (.cond (.tmp 10)
 .skip
 (.exit 0))
 (.block 1 (.seq (.ops [⟨some 11, none, .ext (.tmp 9) 2⟩,
 ⟨some 6, none, .mov (.tmp 11)⟩])
 (.seq (.ops [⟨some 12, none, .mov (.tmp 6)⟩,
 ⟨some 13, none, .mov (.tmp 1)⟩,
 ⟨some 14, none, .bin .eql (.tmp 12) (.tmp 13)⟩])
 (.cond (.tmp 14)
 (.seq (.ops [⟨some 4, none, .mov (.const (.bool true))⟩])
 .ret)
 .skip)))))))))
 (.seq (.ops [⟨some 4, none, .mov (.const (.bool false))⟩])
 .ret)))⟩
theorem ok78 : compF Tryd.prog Tryd.f78 = some c78 := by kernel_rfl
def c79 : CF := ⟨10, [.tmp 4],
 (.seq (.ops [⟨some 4, none, .mov (.const (.bool false))⟩])
 (.seq (.ops [⟨some 5, none, .mov (.tmp 0)⟩,
 ⟨some 6, none, .mov (.tmp 1)⟩,
 ⟨some 7, none, .nilck (.tmp 5)⟩,
 ⟨some 8, none, .iaa 256 1 (.tmp 7) (.tmp 6)⟩,
 ⟨some 9, none, .ld1 (.tmp 8)⟩,
 ⟨some 4, none, .mov (.tmp 9)⟩])
 .ret))⟩
theorem ok79 : compF Tryd.prog Tryd.f79 = some c79 := by kernel_rfl
def c80 : CF := ⟨19, [.tmp 2, .tmp 3],
 (.seq (.ops [⟨some 2, none, .mov (.const (.int .i32 0))⟩,
 ⟨some 3, none, .mov (.const (.int .i64 0))⟩])
 (.seq (.seq (.ops [⟨some 4, none, .mov (.tmp 0)⟩,
 ⟨some 5, none, .bin .neq (.tmp 4) (.const (.string ⟨#[]⟩))⟩,
 ⟨some 6, none, .mov (.tmp 5)⟩,
 ⟨some 7, (some (6, true)), .mov (.tmp 0)⟩,
 ⟨some 8, (some (6, true)), .ids (.tmp 7) (.const (.int .i64 0))⟩,
 ⟨some 9, (some (6, true)), .bin .lss (.tmp 8) (.const (.int .u8 128))⟩,
 ⟨some 10, none, .pick (.tmp 6) (.tmp 9) (.const (.bool false))⟩])
 (.cond (.tmp 10)
 (.seq (.ops [⟨some 11, none, .mov (.tmp 0)⟩,
 ⟨some 12, none, .ids (.tmp 11) (.const (.int .i64 0))⟩,
 ⟨some 13, none, .cvi .i32 (.tmp 12)⟩,
 ⟨some 2, none, .mov (.tmp 13)⟩,
 ⟨some 3, none, .mov (.const (.int .i64 1))⟩])
 .ret)
 (.ops [⟨some 15, none, .mov (.tmp 0)⟩,
 ⟨some 16, none, .call (.func 88) [(.tmp 15)]⟩,
 ⟨some 14, none, .mov (.tmp 16)⟩,
 ⟨some 17, none, .ext (.tmp 14) 0⟩,
 ⟨some 18, none, .ext (.tmp 14) 1⟩,
 ⟨some 2, none, .mov (.tmp 17)⟩,
 ⟨some 3, none, .mov (.tmp 18)⟩])))
 .ret))⟩
theorem ok80 : compF Tryd.prog Tryd.f80 = some c80 := by kernel_rfl
def c81 : CF := ⟨9, [.tmp 4],
 (.seq (.ops [⟨some 4, none, .mov (.const (.bool false))⟩])
 (.seq (.ops [⟨some 5, none, .mov (.tmp 0)⟩,
 ⟨some 6, none, .mov (.tmp 1)⟩,
 ⟨some 7, none, .call (.func 82) [(.tmp 5), (.tmp 6)]⟩,
 ⟨some 8, none, .bin .geq (.tmp 7) (.const (.int .i64 0))⟩,
 ⟨some 4, none, .mov (.tmp 8)⟩])
 .ret))⟩
theorem ok81 : compF Tryd.prog Tryd.f81 = some c81 := by kernel_rfl
def c82 : CF := ⟨187, [.tmp 4],
 (.seq (.ops [⟨some 4, none, .mov (.const (.int .i64 0))⟩])
 (.block 0 (.seq (.ops [⟨some 161, none, .mov (.tmp 1)⟩,
 ⟨some 162, none, .bin .leq (.const (.int .i32 0)) (.tmp 161)⟩,
 ⟨some 163, none, .mov (.tmp 162)⟩,
 ⟨some 164, (some (163, true)), .mov (.tmp 1)⟩,
 ⟨some 165, (some (163, true)), .bin .lss (.tmp 164) (.const (.int .i32 128))⟩,
 ⟨some 166, none, .pick (.tmp 163) (.tmp 165) (.const (.bool false))⟩,
 ⟨some 160, none, .mov (.tmp 166)⟩])
 (.cond (.tmp 160)
 (.seq (.ops [⟨some 167, none, .mov (.tmp 0)⟩,
 ⟨some 168, none, .mov (.tmp 1)⟩,
 ⟨some 169, none, .cvi .u8 (.tmp 168)⟩,
 ⟨some 170, none, .call (.func 89) [(.tmp 167), (.tmp 169)]⟩,
 ⟨some 4, none, .mov (.tmp 170)⟩])
 .ret)
 (.seq (.ops [⟨some 172, none, .mov (.tmp 1)⟩,
 ⟨some 173, none, .bin .eql (.tmp 172) (.const (.int .i32 65533))⟩,
 ⟨some 171, none, .mov (.tmp 173)⟩])
 (.cond (.tmp 171)
 (.seq (.seq (.ops [⟨some 174, none, .mov (.tmp 0)⟩,
 ⟨some 175, none, .itr (.tmp 174)⟩])
 (.block 9 (.loop (.seq (.ops [⟨some 176, none, .nxt (.tmp 175)⟩,
 ⟨some 177, none, .ext (.tmp 176) 0⟩])
 (.seq (.cond (.tmp 177)
 .skip
 (.exit 9))
 (.block 10 (.seq (.ops [⟨some 178, none, .ext (.tmp 176) 1⟩,
 ⟨some 179, none, .ext (.tmp 176) 2⟩,
 ⟨some 5, none, .mov (.tmp 178)⟩,
 ⟨some 6, none, .mov (.tmp 179)⟩])
 (.seq (.ops [⟨some 180, none, .mov (.tmp 6)⟩,
 ⟨some 181, none, .bin .eql (.tmp 180) (.const (.int .i32 65533))⟩])
 (.cond (.tmp 181)
 (.seq (.ops [⟨some 182, none, .mov (.tmp 5)⟩,
 ⟨some 4, none, .mov (.tmp 182)⟩])
 .ret)
 .skip)))))))))
 (.seq (.ops [⟨some 4, none, .mov (.const (.int .i64 (-1)))⟩])
 .ret))
 (.seq (.ops [⟨some 184, none, .mov (.tmp 1)⟩,
 ⟨some 185, none, .call (.func 87) [(.tmp 184)]⟩,
 ⟨some 186, none, .un .not (.tmp 185)⟩,
 ⟨some 183, none, .mov (.tmp 186)⟩])
 (.cond (.tmp 183)
 (.seq (.ops [⟨some 4, none, .mov (.const (.int .i64 (-1)))⟩])
 .ret)
 (.scope (.seq (.ops [⟨some 17, none, .mov (.tmp 1)⟩,
 ⟨some 18, none, .bad⟩,
 ⟨some 7, none, .mov (.tmp 18)⟩])
 (.seq (.ops [⟨some 19, none, .mov (.tmp 7)⟩,
 ⟨some 20, none, .lns (.tmp 19)⟩,
 ⟨some 21, none, .bin .sub (.tmp 20) (.const (.int .i64 1))⟩,
 ⟨some 8, none, .mov (.tmp 21)⟩])
 (.seq (.ops [⟨some 22, none, .mov (.tmp 8)⟩,
 ⟨some 9, none, .mov (.tmp 22)⟩])
 (.seq (.ops [⟨some 10, none, .mov (.const (.int .i64 0))⟩])
 (.seq (.block 1 (.loop (.seq (.seq (.ops [⟨some 23, none, .mov (.tmp 9)⟩,
 ⟨some 24, none, .mov (.tmp 0)⟩,
 ⟨some 25, none, .lns (.tmp 24)⟩,
 ⟨some 26, none, .bin .lss (.tmp 23) (.tmp 25)⟩])
 (.cond (.tmp 26)
 .skip
 (.exit 1)))
 (.block 2 (.scope (.seq (.seq (.draw [⟨some 27, none, .mov (.tmp 0)⟩,
 ⟨some 28, none, .mov (.tmp 9)⟩,
 ⟨some 29, none, .ids (.tmp 27) (.tmp 28)⟩,
 ⟨some 30, none, .mov (.tmp 7)⟩,
 ⟨some 31, none, .mov (.tmp 8)⟩,
 ⟨some 32, none, .ids (.tmp 30) (.tmp 31)⟩,
 ⟨some 33, none, .bin .neq (.tmp 29) (.tmp 32)⟩] [(0, 1), (0, 3), (1, 3), (2, 3), (0, 4), (1, 4), (2, 4), (3, 4), (0, 5), (1, 5), (2, 5)])
 (.cond (.tmp 33)
 (.seq (.draw [⟨some 34, none, .mov (.tmp 0)⟩,
 ⟨some 35, none, .mov (.tmp 9)⟩,
 ⟨some 36, none, .bin .add (.tmp 35) (.const (.int .i64 1))⟩,
 ⟨some 37, none, .sls (.tmp 34) (some (.tmp 36)) none⟩,
 ⟨some 38, none, .mov (.tmp 7)⟩,
 ⟨some 39, none, .mov (.tmp 8)⟩,
 ⟨some 40, none, .ids (.tmp 38) (.tmp 39)⟩,
 ⟨some 41, none, .call (.func 89) [(.tmp 37), (.tmp 40)]⟩,
 ⟨some 11, none, .mov (.tmp 41)⟩] [(0, 1), (0, 2), (0, 4), (1, 4), (2, 4), (3, 4), (0, 5), (1, 5), (2, 5), (3, 5), (4, 5), (0, 6), (1, 6), (2, 6), (3, 6)])
 (.seq (.seq (.ops [⟨some 42, none, .mov (.tmp 11)⟩,
 ⟨some 43, none, .bin .lss (.tmp 42) (.const (.int .i64 0))⟩])
 (.cond (.tmp 43)
 (.seq (.ops [⟨some 4, none, .mov (.const (.int .i64 (-1)))⟩])
 .ret)
 .skip))
 (.ops [⟨some 44, none, .mov (.tmp 9)⟩,
 ⟨some 45, none, .mov (.tmp 11)⟩,
 ⟨some 46, none, .bin .add (.tmp 45) (.const (.int .i64 1))⟩,
 ⟨some 47, none, .bin .add (.tmp 44) (.tmp 46)⟩,
 ⟨some 9, none, .mov (.tmp 47)⟩])))
 .skip))
 (.seq (.seq (.ops [⟨some 12, none, .mov (.const (.int .i64 1))⟩])
 (.block 3 (.loop (.seq (.seq (.ops [⟨some 48, none, .mov (.tmp 12)⟩,
 ⟨some 49, none, .mov (.tmp 7)⟩,
 ⟨some 50, none, .lns (.tmp 49)⟩,
 ⟨some 51, none, .bin .lss (.tmp 48) (.tmp 50)⟩])
 (.cond (.tmp 51)
 .skip
 (.exit 3)))
 (.seq (.block 4 (.seq (.draw [⟨some 54, none, .mov (.tmp 0)⟩,
 ⟨some 55, none, .mov (.tmp 9)⟩,
 ⟨some 56, none, .mov (.tmp 12)⟩,
 ⟨some 57, none, .bin .sub (.tmp 55) (.tmp 56)⟩,
 ⟨some 58, none, .ids (.tmp 54) (.tmp 57)⟩,
 ⟨some 59, none, .mov (.tmp 7)⟩,
 ⟨some 60, none, .mov (.tmp 8)⟩,
 ⟨some 61, none, .mov (.tmp 12)⟩,
 ⟨some 62, none, .bin .sub (.tmp 60) (.tmp 61)⟩,
 ⟨some 63, none, .ids (.tmp 59) (.tmp 62)⟩,
 ⟨some 64, none, .bin .neq (.tmp 58) (.tmp 63)⟩] [(0, 1), (0, 2), (1, 2), (0, 3), (0, 5), (1, 5), (2, 5), (3, 5), (4, 5), (0, 6), (1, 6), (2, 6), (3, 6), (4, 6), (5, 6), (0, 7), (1, 7), (2, 7), (3, 7), (4, 7), (5, 7), (6, 7), (0, 8), (1, 8), (2, 8), (3, 8), (4, 8), (5, 8), (0, 9), (1, 9), (2, 9), (3, 9), (4, 9)])
 (.cond (.tmp 64)
 (.goto 0)
 .skip)))
 (.ops [⟨some 52, none, .mov (.tmp 12)⟩,
 ⟨some 53, none, .bin .add (.tmp 52) (.const (.int .i64 1))⟩,
 ⟨some 12, none, .mov (.tmp 53)⟩]))))))
 (.seq (.seq (.ops [⟨some 65, none, .mov (.tmp 9)⟩,
 ⟨some 66, none, .mov (.tmp 8)⟩,
 ⟨some 67, none, .bin .sub (.tmp 65) (.tmp 66)⟩,
 ⟨some 4, none, .mov (.tmp 67)⟩])
 .ret)
 (.seq (.label 0)
 (.seq (.ops [⟨some 68, none, .mov (.tmp 10)⟩,
 ⟨some 69, none, .bin .add (.tmp 68) (.const (.int .i64 1))⟩,
 ⟨some 10, none, .mov (.tmp 69)⟩])
 (.seq (.ops [⟨some 70, none, .mov (.tmp 9)⟩,
 ⟨some 71, none, .bin .add (.tmp 70) (.const (.int .i64 1))⟩,
 ⟨some 9, none, .mov (.tmp 71)⟩])
 (.seq (.ops [⟨some 72, none, .mov (.const (.bool true))⟩,
 ⟨some 73, (some (72, true)), .mov (.tmp 10)⟩,
 ⟨some 74, (some (72, true)), .mov (.tmp 9)⟩,
 ⟨some 75, (some (72, true)), .call (.func 90) [(.tmp 74)]⟩,
 ⟨some 76, (some (72, true)), .bin .gtr (.tmp 73) (.tmp 75)⟩,
 ⟨some 77, none, .pick (.tmp 72) (.tmp 76) (.const (.bool false))⟩,
 ⟨some 78, none, .mov (.tmp 77)⟩,
 ⟨some 79, (some (78, true)), .mov (.tmp 9)⟩,
 ⟨some 80, (some (78, true)), .mov (.tmp 0)⟩,
 ⟨some 81, (some (78, true)), .lns (.tmp 80)⟩,
 ⟨some 82, (some (78, true)), .bin .lss (.tmp 79) (.tmp 81)⟩,
 ⟨some 83, none, .pick (.tmp 78) (.tmp 82) (.const (.bool false))⟩,
 ⟨some 84, none, .mov (.tmp 83)⟩,
 ⟨some 85, (some (84, false)), .mov (.const (.bool false))⟩,
 ⟨some 86, (some (85, true)), .mov (.tmp 10)⟩,
 ⟨some 87, (some (85, true)), .mov (.tmp 9)⟩,
 ⟨some 88, (some (85, true)), .bin .shr (.tmp 87) (.const (.int .u64 4))⟩,
 ⟨some 89, (some (85, true)), .bin .add (.const (.int .i64 4)) (.tmp 88)⟩,
 ⟨some 90, (some (85, true)), .bin .geq (.tmp 86) (.tmp 89)⟩,
 ⟨some 91, (some (84, false)), .pick (.tmp 85) (.tmp 90) (.const (.bool false))⟩,
 ⟨some 92, (some (84, false)), .mov (.tmp 91)⟩,
 ⟨some 93, (some (92, true)), .mov (.tmp 9)⟩,
 ⟨some 94, (some (92, true)), .mov (.tmp 0)⟩,
 ⟨some 95, (some (92, true)), .lns (.tmp 94)⟩,
 ⟨some 96, (some (92, true)), .bin .lss (.tmp 93) (.tmp 95)⟩,
 ⟨some 97, (some (84, false)), .pick (.tmp 92) (.tmp 96) (.const (.bool false))⟩,
 ⟨some 98, none, .pick (.tmp 84) (.const (.bool true)) (.tmp 97)⟩])
 (.cond (.tmp 98)
 (.goto 1)
 .skip)))))))))))))
 (.seq (.seq (.ops [⟨some 4, none, .mov (.const (.int .i64 (-1)))⟩])
 .ret)
 (.seq (.label 1)
 (.seq (.cond (.const (.bool true))
 (.seq (.ops [⟨some 99, none, .mov (.tmp 0)⟩,
 ⟨some 100, none, .mov (.tmp 9)⟩,
 ⟨some 101, none, .mov (.tmp 8)⟩,
 ⟨some 102, none, .bin .sub (.tmp 100) (.tmp 101)⟩,
 ⟨some 103, none, .sls (.tmp 99) (some (.tmp 102)) none⟩,
 ⟨some 104, none, .mov (.tmp 1)⟩,
 ⟨some 105, none, .bad⟩,
 ⟨some 106, none, .call (.func 91) [(.tmp 103), (.tmp 105)]⟩,
 ⟨some 13, none, .mov (.tmp 106)⟩])
 (.seq (.ops [⟨some 107, none, .mov (.tmp 13)⟩,
 ⟨some 108, none, .bin .geq (.tmp 107) (.const (.int .i64 0))⟩])
 (.cond (.tmp 108)
 (.seq (.ops [⟨some 109, none, .mov (.tmp 9)⟩,
 ⟨some 110, none, .mov (.tmp 13)⟩,
 ⟨some 111, none, .bin .add (.tmp 109) (.tmp 110)⟩,
 ⟨some 112, none, .mov (.tmp 8)⟩,
 ⟨some 113, none, .bin .sub (.tmp 111) (.tmp 112)⟩,
 ⟨some 4, none, .mov (.tmp 113)⟩])
 .ret)
 .skip)))
 (.scope (.seq (.ops [⟨some 114, none, .mov (.tmp 7)⟩,
 ⟨some 115, none, .mov (.tmp 8)⟩,
 ⟨some 116, none, .ids (.tmp 114) (.tmp 115)⟩,
 ⟨some 14, none, .mov (.tmp 116)⟩])
 (.seq (.ops [⟨some 117, none, .mov (.tmp 7)⟩,
 ⟨some 118, none, .mov (.tmp 8)⟩,
 ⟨some 119, none, .bin .sub (.tmp 118) (.const (.int .i64 1))⟩,
 ⟨some 120, none, .ids (.tmp 117) (.tmp 119)⟩,
 ⟨some 15, none, .mov (.tmp 120)⟩])
 (.seq (.label 2)
 (.block 5 (.loop (.seq (.seq (.ops [⟨some 121, none, .mov (.tmp 9)⟩,
 ⟨some 122, none, .mov (.tmp 0)⟩,
 ⟨some 123, none, .lns (.tmp 122)⟩,
 ⟨some 124, none, .bin .lss (.tmp 121) (.tmp 123)⟩])
 (.cond (.tmp 124)
 .skip
 (.exit 5)))
 (.seq (.block 6 (.seq (.ops [⟨some 127, none, .mov (.tmp 0)⟩,
 ⟨some 128, none, .mov (.tmp 9)⟩,
 ⟨some 129, none, .ids (.tmp 127) (.tmp 128)⟩,
 ⟨some 130, none, .mov (.tmp 14)⟩,
 ⟨some 131, none, .bin .eql (.tmp 129) (.tmp 130)⟩,
 ⟨some 132, none, .mov (.tmp 131)⟩,
 ⟨some 133, (some (132, true)), .mov (.tmp 0)⟩,
 ⟨some 134, (some (132, true)), .mov (.tmp 9)⟩,
 ⟨some 135, (some (132, true)), .bin .sub (.tmp 134) (.const (.int .i64 1))⟩,
 ⟨some 136, (some (132, true)), .ids (.tmp 133) (.tmp 135)⟩,
 ⟨some 137, (some (132, true)), .mov (.tmp 15)⟩,
 ⟨some 138, (some (132, true)), .bin .eql (.tmp 136) (.tmp 137)⟩,
 ⟨some 139, none, .pick (.tmp 132) (.tmp 138) (.const (.bool false))⟩])
 (.cond (.tmp 139)
 (.seq (.seq (.ops [⟨some 16, none, .mov (.const (.int .i64 2))⟩])
 (.block 7 (.loop (.seq (.seq (.ops [⟨some 140, none, .mov (.tmp 16)⟩,
 ⟨some 141, none, .mov (.tmp 7)⟩,
 ⟨some 142, none, .lns (.tmp 141)⟩,
 ⟨some 143, none, .bin .lss (.tmp 140) (.tmp 142)⟩])
 (.cond (.tmp 143)
 .skip
 (.exit 7)))
 (.seq (.block 8 (.seq (.draw [⟨some 146, none, .mov (.tmp 0)⟩,
 ⟨some 147, none, .mov (.tmp 9)⟩,
 ⟨some 148, none, .mov (.tmp 16)⟩,
 ⟨some 149, none, .bin .sub (.tmp 147) (.tmp 148)⟩,
 ⟨some 150, none, .ids (.tmp 146) (.tmp 149)⟩,
 ⟨some 151, none, .mov (.tmp 7)⟩,
 ⟨some 152, none, .mov (.tmp 8)⟩,
 ⟨some 153, none, .mov (.tmp 16)⟩,
 ⟨some 154, none, .bin .sub (.tmp 152) (.tmp 153)⟩,
 ⟨some 155, none, .ids (.tmp 151) (.tmp 154)⟩,
 ⟨some 156, none, .bin .neq (.tmp 150) (.tmp 155)⟩] [(0, 1), (0, 2), (1, 2), (0, 3), (0, 5), (1, 5), (2, 5), (3, 5), (4, 5), (0, 6), (1, 6), (2, 6), (3, 6), (4, 6), (5, 6), (0, 7), (1, 7), (2, 7), (3, 7), (4, 7), (5, 7), (6, 7), (0, 8), (1, 8), (2, 8), (3, 8), (4, 8), (5, 8), (0, 9), (1, 9), (2, 9), (3, 9), (4, 9)])
 (.cond (.tmp 156)
 (.exit 6)
 .skip)))
 (.ops [⟨some 144, none, .mov (.tmp 16)⟩,
 ⟨some 145, none, .bin .add (.tmp 144) (.const (.int .i64 1))⟩,
 ⟨some 16, none, .mov (.tmp 145)⟩]))))))
 (.seq (.ops [⟨some 157, none, .mov (.tmp 9)⟩,
 ⟨some 158, none, .mov (.tmp 8)⟩,
 ⟨some 159, none, .bin .sub (.tmp 157) (.tmp 158)⟩,
 ⟨some 4, none, .mov (.tmp 159)⟩])
 .ret))
 .skip)))
 (.ops [⟨some 125, none, .mov (.tmp 9)⟩,
 ⟨some 126, none, .bin .add (.tmp 125) (.const (.int .i64 1))⟩,
 ⟨some 9, none, .mov (.tmp 126)⟩]))))))))))
 (.seq (.ops [⟨some 4, none, .mov (.const (.int .i64 (-1)))⟩])
 .ret))))))))))))))))))⟩
theorem ok82 : compF Tryd.prog Tryd.f82 = some c82 := by kernel_rfl
def c83 : CF := ⟨5, [.tmp 2],
 (.seq (.ops [⟨some 2, none, .mov (.const (.bool false))⟩])
 (.seq (.ops [⟨some 3, none, .mov (.tmp 0)⟩,
 ⟨some 4, none, .bin .gtr (.tmp 3) (.const (.int .i64 8))⟩,
 ⟨some 2, none, .mov (.tmp 4)⟩])
 .ret))⟩
theorem ok83 : compF Tryd.prog Tryd.f83 = some c83 := by kernel_rfl
def c84 : CF := ⟨25, [.tmp 2],
 (.seq (.ops [⟨some 2, none, .mov (.const (.int .i64 0))⟩])
 (.seq (.block 0 (.seq (.ops [⟨some 4, none, .mov (.tmp 0)⟩,
 ⟨some 5, none, .bin .lss (.tmp 4) (.const (.int .i32 0))⟩,
 ⟨some 3, none, .mov (.tmp 5)⟩])
 (.cond (.tmp 3)
 (.seq (.ops [⟨some 2, none, .mov (.const (.int .i64 (-1)))⟩])
 .ret)
 (.seq (.ops [⟨some 7, none, .mov (.tmp 0)⟩,
 ⟨some 8, none, .bin .leq (.tmp 7) (.const (.int .i32 127))⟩,
 ⟨some 6, none, .mov (.tmp 8)⟩])
 (.cond (.tmp 6)
 (.seq (.ops [⟨some 2, none, .mov (.const (.int .i64 1))⟩])
 .ret)
 (.seq (.ops [⟨some 10, none, .mov (.tmp 0)⟩,
 ⟨some 11, none, .bin .leq (.tmp 10) (.const (.int .i32 2047))⟩,
 ⟨some 9, none, .mov (.tmp 11)⟩])
 (.cond (.tmp 9)
 (.seq (.ops [⟨some 2, none, .mov (.const (.int .i64 2))⟩])
 .ret)
 (.seq (.ops [⟨some 13, none, .mov (.tmp 0)⟩,
 ⟨some 14, none, .bin .leq (.const (.int .i32 55296)) (.tmp 13)⟩,
 ⟨some 15, none, .mov (.tmp 14)⟩,
 ⟨some 16, (some (15, true)), .mov (.tmp 0)⟩,
 ⟨some 17, (some (15, true)), .bin .leq (.tmp 16) (.const (.int .i32 57343))⟩,
 ⟨some 18, none, .pick (.tmp 15) (.tmp 17) (.const (.bool false))⟩,
 ⟨some 12, none, .mov (.tmp 18)⟩])
 (.cond (.tmp 12)
 (.seq (.ops [⟨some 2, none, .mov (.const (.int .i64 (-1)))⟩])
 .ret)
 (.seq (.ops [⟨some 20, none, .mov (.tmp 0)⟩,
 ⟨some 21, none, .bin .leq (.tmp 20) (.const (.int .i32 65535))⟩,
 ⟨some 19, none, .mov (.tmp 21)⟩])
 (.cond (.tmp 19)
 (.seq (.ops [⟨some 2, none, .mov (.const (.int .i64 3))⟩])
 .ret)
 (.seq (.ops [⟨some 23, none, .mov (.tmp 0)⟩,
 ⟨some 24, none, .bin .leq (.tmp 23) (.const (.int .i32 1114111))⟩,
 ⟨some 22, none, .mov (.tmp 24)⟩])
 (.cond (.tmp 22)
 (.seq (.ops [⟨some 2, none, .mov (.const (.int .i64 4))⟩])
 .ret)
 .skip)))))))))))))
 (.seq (.ops [⟨some 2, none, .mov (.const (.int .i64 (-1)))⟩])
 .ret)))⟩
theorem ok84 : compF Tryd.prog Tryd.f84 = some c84 := by kernel_rfl
def c85 : CF := ⟨37, [.tmp 4, .tmp 5, .tmp 6],
 (.seq (.ops [⟨some 4, none, .mov (.const (.int .i32 0))⟩,
 ⟨some 5, none, .mov (.const (.int .i64 0))⟩,
 ⟨some 6, none, .mov (.const (.int .i64 0))⟩])
 (.seq (.seq (.ops [⟨some 7, none, .mov (.tmp 1)⟩,
 ⟨some 8, none, .bin .lss (.tmp 7) (.const (.int .i64 0))⟩,
 ⟨some 9, none, .mov (.tmp 8)⟩,
 ⟨some 10, (some (9, false)), .mov (.tmp 1)⟩,
 ⟨some 11, (some (9, false)), .mov (.tmp 0)⟩,
 ⟨some 12, (some (9, false)), .lnl (.tmp 11)⟩,
 ⟨some 13, (some (9, false)), .bin .geq (.tmp 10) (.tmp 12)⟩,
 ⟨some 14, none, .pick (.tmp 9) (.const (.bool true)) (.tmp 13)⟩])
 (.cond (.tmp 14)
 (.seq (.ops [⟨some 4, none, .mov (.const (.int .i32 0))⟩,
 ⟨some 5, none, .mov (.const (.int .i64 0))⟩,
 ⟨some 6, none, .mov (.const (.int .i64 7))⟩])
 .ret)
 .skip))
 (.seq (.ops [⟨some 16, none, .mov (.tmp 0)⟩,
 ⟨some 17, none, .mov (.tmp 1)⟩,
 ⟨some 18, none, .sl 1 (.tmp 16) (some (.tmp 17)) none none⟩,
 ⟨some 19, none, .call (.func 92) [(.tmp 18)]⟩,
 ⟨some 15, none, .mov (.tmp 19)⟩,
 ⟨some 20, none, .ext (.tmp 15) 0⟩,
 ⟨some 21, none, .ext (.tmp 15) 1⟩,
 ⟨some 4, none, .mov (.tmp 20)⟩,
 ⟨some 5, none, .mov (.tmp 21)⟩])
 (.seq (.block 0 (.seq (.ops [⟨some 23, none, .mov (.tmp 4)⟩,
 ⟨some 24, none, .bin .neq (.tmp 23) (.const (.int .i32 65533))⟩,
 ⟨some 25, none, .mov (.tmp 24)⟩,
 ⟨some 26, (some (25, false)), .mov (.tmp 5)⟩,
 ⟨some 27, (some (25, false)), .bin .gtr (.tmp 26) (.const (.int .i64 1))⟩,
 ⟨some 28, none, .pick (.tmp 25) (.const (.bool true)) (.tmp 27)⟩,
 ⟨some 22, none, .mov (.tmp 28)⟩])
 (.cond (.tmp 22)
 (.seq (.ops [⟨some 29, none, .mov (.tmp 4)⟩,
 ⟨some 30, none, .mov (.tmp 5)⟩,
 ⟨some 4, none, .mov (.tmp 29)⟩,
 ⟨some 5, none, .mov (.tmp 30)⟩,
 ⟨some 6, none, .mov (.const (.int .i64 0))⟩])
 .ret)
 (.seq (.ops [⟨some 32, none, .mov (.tmp 0)⟩,
 ⟨some 33, none, .mov (.tmp 1)⟩,
 ⟨some 34, none, .sl 1 (.tmp 32) (some (.tmp 33)) none none⟩,
 ⟨some 35, none, .call (.func 93) [(.tmp 34)]⟩,
 ⟨some 36, none, .un .not (.tmp 35)⟩,
 ⟨some 31, none, .mov (.tmp 36)⟩])
 (.cond (.tmp 31)
 (.seq (.ops [⟨some 4, none, .mov (.const (.int .i32 0))⟩,
 ⟨some 5, none, .mov (.const (.int .i64 0))⟩,
 ⟨some 6, none, .mov (.const (.int .i64 320))⟩])
 .ret)
 .skip)))))
 (.seq (.ops [⟨some 4, none, .mov (.const (.int .i32 0))⟩,
 ⟨some 5, none, .mov (.const (.int .i64 0))⟩,
 ⟨some 6, none, .mov (.const (.int .i64 6))⟩])
 .ret)))))⟩
theorem ok85 : compF Tryd.prog Tryd.f85 = some c85 := by kernel_rfl
def c86 : CF := ⟨30, [],
 (.seq (.ops [⟨some 3, none, .mov (.const (.int .i64 0))⟩])
 (.block 0 (.loop (.seq (.seq (.ops [⟨some 7, none, .mov (.tmp 3)⟩,
 ⟨some 8, none, .ld1 (.tmp 1)⟩,
 ⟨some 9, none, .lnl (.tmp 8)⟩,
 ⟨some 10, none, .bin .lss (.tmp 7) (.tmp 9)⟩])
 (.cond (.tmp 10)
 .skip
 (.exit 0)))
 (.block 1 (.seq (.ops [⟨some 12, none, .ld1 (.tmp 1)⟩,
 ⟨some 13, none, .mov (.tmp 3)⟩,
 ⟨some 14, none, .call (.func 85) [(.tmp 12), (.tmp 13)]⟩,
 ⟨some 11, none, .mov (.tmp 14)⟩,
 ⟨some 15, none, .ext (.tmp 11) 0⟩,
 ⟨some 16, none, .ext (.tmp 11) 1⟩,
 ⟨some 17, none, .ext (.tmp 11) 2⟩,
 ⟨some 4, none, .mov (.tmp 15)⟩,
 ⟨some 5, none, .mov (.tmp 16)⟩,
 ⟨some 6, none, .mov (.tmp 17)⟩])
 (.seq (.seq (.ops [⟨some 18, none, .mov (.tmp 6)⟩,
 ⟨some 19, none, .bin .neq (.tmp 18) (.const (.int .i64 0))⟩,
 ⟨some 20, none, .mov (.tmp 19)⟩,
 ⟨some 21, (some (20, false)), .mov (.tmp 0)⟩,
 ⟨some 22, (some (20, false)), .mov (.tmp 3)⟩,
 ⟨some 23, (some (20, false)), .mov (.tmp 4)⟩,
 ⟨some 24, (some (20, false)), .call (.tmp 21) [(.tmp 22), (.tmp 23)]⟩,
 ⟨some 25, (some (20, false)), .un .not (.tmp 24)⟩,
 ⟨some 26, none, .pick (.tmp 20) (.const (.bool true)) (.tmp 25)⟩])
 (.cond (.tmp 26)
 .ret
 .skip))
 (.ops [⟨some 27, none, .mov (.tmp 3)⟩,
 ⟨some 28, none, .mov (.tmp 5)⟩,
 ⟨some 29, none, .bin .add (.tmp 27) (.tmp 28)⟩,
 ⟨some 3, none, .mov (.tmp 29)⟩]))))))))⟩
theorem ok86 : compF Tryd.prog Tryd.f86 = some c86 := by kernel_rfl
def c87 : CF := ⟨17, [.tmp 2],
 (.seq (.ops [⟨some 2, none, .mov (.const (.bool false))⟩])
 (.seq (.block 0 (.seq (.ops [⟨some 4, none, .mov (.tmp 0)⟩,
 ⟨some 5, none, .bin .leq (.const (.int .i32 0)) (.tmp 4)⟩,
 ⟨some 6, none, .mov (.tmp 5)⟩,
 ⟨some 7, (some (6, true)), .mov (.tmp 0)⟩,
 ⟨some 8, (some (6, true)), .bin .lss (.tmp 7) (.const (.int .i32 55296))⟩,
 ⟨some 9, none, .pick (.tmp 6) (.tmp 8) (.const (.bool false))⟩,
 ⟨some 3, none, .mov (.tmp 9)⟩])
 (.cond (.tmp 3)
 (.seq (.ops [⟨some 2, none, .mov (.const (.bool true))⟩])
 .ret)
 (.seq (.ops [⟨some 11, none, .mov (.tmp 0)⟩,
 ⟨some 12, none, .bin .lss (.const (.int .i32 57343)) (.tmp 11)⟩,
 ⟨some 13, none, .mov (.tmp 12)⟩,
 ⟨some 14, (some (13, true)), .mov (.tmp 0)⟩,
 ⟨some 15, (some (13, true)), .bin .leq (.tmp 14) (.const (.int .i32 1114111))⟩,
 ⟨some 16, none, .pick (.tmp 13) (.tmp 15) (.const (.bool false))⟩,
 ⟨some 10, none, .mov (.tmp 16)⟩])
 (.cond (.tmp 10)
 (.seq (.ops [⟨some 2, none, .mov (.const (.bool true))⟩])
 .ret)
 .skip)))))
 (.seq (.ops [⟨some 2, none, .mov (.const (.bool false))⟩])
 .ret)))⟩
theorem ok87 : compF Tryd.prog Tryd.f87 = some c87 := by kernel_rfl
def c88 : CF := ⟨117, [.tmp 2, .tmp 3],
 (.seq (.ops [⟨some 2, none, .mov (.const (.int .i32 0))⟩,
 ⟨some 3, none, .mov (.const (.int .i64 0))⟩])
 (.seq (.ops [⟨some 13, none, .mov (.tmp 0)⟩,
 ⟨some 14, none, .lns (.tmp 13)⟩,
 ⟨some 4, none, .mov (.tmp 14)⟩])
 (.seq (.seq (.ops [⟨some 15, none, .mov (.tmp 4)⟩,
 ⟨some 16, none, .bin .lss (.tmp 15) (.const (.int .i64 1))⟩])
 (.cond (.tmp 16)
 (.seq (.ops [⟨some 2, none, .mov (.const (.int .i32 65533))⟩,
 ⟨some 3, none, .mov (.const (.int .i64 0))⟩])
 .ret)
 .skip))
 (.seq (.ops [⟨some 17, none, .mov (.tmp 0)⟩,
 ⟨some 18, none, .ids (.tmp 17) (.const (.int .i64 0))⟩,
 ⟨some 5, none, .mov (.tmp 18)⟩])
 (.seq (.ops [⟨some 19, none, .mov (.tmp 5)⟩,
 ⟨some 20, none, .iaa 256 1 (.global 0) (.tmp 19)⟩,
 ⟨some 21, none, .ld1 (.tmp 20)⟩,
 ⟨some 6, none, .mov (.tmp 21)⟩])
 (.seq (.seq (.ops [⟨some 22, none, .mov (.tmp 6)⟩,
 ⟨some 23, none, .bin .geq (.tmp 22) (.const (.int .u8 240))⟩])
 (.cond (.tmp 23)
 (.seq (.ops [⟨some 24, none, .mov (.tmp 6)⟩,
 ⟨some 25, none, .cvi .i32 (.tmp 24)⟩,
 ⟨some 26, none, .bin .shl (.tmp 25) (.const (.int .u64 31))⟩,
 ⟨some 27, none, .bin .shr (.tmp 26) (.const (.int .u64 31))⟩,
 ⟨some 7, none, .mov (.tmp 27)⟩])
 (.seq (.ops [⟨some 28, none, .mov (.tmp 0)⟩,
 ⟨some 29, none, .ids (.tmp 28) (.const (.int .i64 0))⟩,
 ⟨some 30, none, .cvi .i32 (.tmp 29)⟩,
 ⟨some 31, none, .mov (.tmp 7)⟩,
 ⟨some 32, none, .bin .andNot (.tmp 30) (.tmp 31)⟩,
 ⟨some 33, none, .mov (.tmp 7)⟩,
 ⟨some 34, none, .bin .and (.const (.int .i32 65533)) (.tmp 33)⟩,
 ⟨some 35, none, .bin .or (.tmp 32) (.tmp 34)⟩,
 ⟨some 2, none, .mov (.tmp 35)⟩,
 ⟨some 3, none, .mov (.const (.int .i64 1))⟩])
 .ret))
 .skip))
 (.seq (.ops [⟨some 36, none, .mov (.tmp 6)⟩,
 ⟨some 37, none, .bin .and (.tmp 36) (.const (.int .u8 7))⟩,
 ⟨some 38, none, .cvi .i64 (.tmp 37)⟩,
 ⟨some 8, none, .mov (.tmp 38)⟩])
 (.seq (.ops [⟨some 39, none, .mov (.tmp 6)⟩,
 ⟨some 40, none, .bin .shr (.tmp 39) (.const (.int .u64 4))⟩,
 ⟨some 41, none, .iaa 16 2 (.global 1) (.tmp 40)⟩,
 ⟨some 42, none, .ld 2 (.tmp 41)⟩,
 ⟨some 9, none, .newz [(.int .u8 0), (.int .u8 0)]⟩,
 ⟨none, none, .st 2 (.tmp 9) (.tmp 42)⟩])
 (.seq (.seq (.ops [⟨some 43, none, .mov (.tmp 4)⟩,
 ⟨some 44, none, .mov (.tmp 8)⟩,
 ⟨some 45, none, .bin .lss (.tmp 43) (.tmp 44)⟩])
 (.cond (.tmp 45)
 (.seq (.ops [⟨some 2, none, .mov (.const (.int .i32 65533))⟩,
 ⟨some 3, none, .mov (.const (.int .i64 1))⟩])
 .ret)
 .skip))
 (.seq (.ops [⟨some 46, none, .mov (.tmp 0)⟩,
 ⟨some 47, none, .ids (.tmp 46) (.const (.int .i64 1))⟩,
 ⟨some 10, none, .mov (.tmp 47)⟩])
 (.seq (.seq (.ops [⟨some 48, none, .mov (.tmp 10)⟩,
 ⟨some 49, none, .fad (.tmp 9) 0⟩,
 ⟨some 50, none, .ld1 (.tmp 49)⟩,
 ⟨some 51, none, .bin .lss (.tmp 48) (.tmp 50)⟩,
 ⟨some 52, none, .mov (.tmp 51)⟩,
 ⟨some 53, (some (52, false)), .fad (.tmp 9) 1⟩,
 ⟨some 54, (some (52, false)), .ld1 (.tmp 53)⟩,
 ⟨some 55, (some (52, false)), .mov (.tmp 10)⟩,
 ⟨some 56, (some (52, false)), .bin .lss (.tmp 54) (.tmp 55)⟩,
 ⟨some 57, none, .pick (.tmp 52) (.const (.bool true)) (.tmp 56)⟩])
 (.cond (.tmp 57)
 (.seq (.ops [⟨some 2, none, .mov (.const (.int .i32 65533))⟩,
 ⟨some 3, none, .mov (.const (.int .i64 1))⟩])
 .ret)
 .skip))
 (.seq (.seq (.ops [⟨some 58, none, .mov (.tmp 8)⟩,
 ⟨some 59, none, .bin .leq (.tmp 58) (.const (.int .i64 2))⟩])
 (.cond (.tmp 59)
 (.seq (.ops [⟨some 60, none, .mov (.tmp 5)⟩,
 ⟨some 61, none, .bin .and (.tmp 60) (.const (.int .u8 31))⟩,
 ⟨some 62, none, .cvi .i32 (.tmp 61)⟩,
 ⟨some 63, none, .bin .shl (.tmp 62) (.const (.int .u64 6))⟩,
 ⟨some 64, none, .mov (.tmp 10)⟩,
 ⟨some 65, none, .bin .and (.tmp 64) (.const (.int .u8 63))⟩,
 ⟨some 66, none, .cvi .i32 (.tmp 65)⟩,
 ⟨some 67, none, .bin .or (.tmp 63) (.tmp 66)⟩,
 ⟨some 2, none, .mov (.tmp 67)⟩,
 ⟨some 3, none, .mov (.const (.int .i64 2))⟩])
 .ret)
 .skip))
 (.seq (.ops [⟨some 68, none, .mov (.tmp 0)⟩,
 ⟨some 69, none, .ids (.tmp 68) (.const (.int .i64 2))⟩,
 ⟨some 11, none, .mov (.tmp 69)⟩])
 (.seq (.seq (.ops [⟨some 70, none, .mov (.tmp 11)⟩,
 ⟨some 71, none, .bin .lss (.tmp 70) (.const (.int .u8 128))⟩,
 ⟨some 72, none, .mov (.tmp 71)⟩,
 ⟨some 73, (some (72, false)), .mov (.tmp 11)⟩,
 ⟨some 74, (some (72, false)), .bin .lss (.const (.int .u8 191)) (.tmp 73)⟩,
 ⟨some 75, none, .pick (.tmp 72) (.const (.bool true)) (.tmp 74)⟩])
 (.cond (.tmp 75)
 (.seq (.ops [⟨some 2, none, .mov (.const (.int .i32 65533))⟩,
 ⟨some 3, none, .mov (.const (.int .i64 1))⟩])
 .ret)
 .skip))
 (.seq (.seq (.ops [⟨some 76, none, .mov (.tmp 8)⟩,
 ⟨some 77, none, .bin .leq (.tmp 76) (.const (.int .i64 3))⟩])
 (.cond (.tmp 77)
 (.seq (.ops [⟨some 78, none, .mov (.tmp 5)⟩,
 ⟨some 79, none, .bin .and (.tmp 78) (.const (.int .u8 15))⟩,
 ⟨some 80, none, .cvi .i32 (.tmp 79)⟩,
 ⟨some 81, none, .bin .shl (.tmp 80) (.const (.int .u64 12))⟩,
 ⟨some 82, none, .mov (.tmp 10)⟩,
 ⟨some 83, none, .bin .and (.tmp 82) (.const (.int .u8 63))⟩,
 ⟨some 84, none, .cvi .i32 (.tmp 83)⟩,
 ⟨some 85, none, .bin .shl (.tmp 84) (.const (.int .u64 6))⟩,
 ⟨some 86, none, .bin .or (.tmp 81) (.tmp 85)⟩,
 ⟨some 87, none, .mov (.tmp 11)⟩,
 ⟨some 88, none, .bin .and (.tmp 87) (.const (.int .u8 63))⟩,
 ⟨some 89, none, .cvi .i32 (.tmp 88)⟩,
 ⟨some 90, none, .bin .or (.tmp 86) (.tmp 89)⟩,
 ⟨some 2, none, .mov (.tmp 90)⟩,
 ⟨some 3, none, .mov (.const (.int .i64 3))⟩])
 .ret)
 .skip))
 (.seq (.ops [⟨some 91, none, .mov (.tmp 0)⟩,
 ⟨some 92, none, .ids (.tmp 91) (.const (.int .i64 3))⟩,
 ⟨some 12, none, .mov (.tmp 92)⟩])
 (.seq (.seq (.ops [⟨some 93, none, .mov (.tmp 12)⟩,
 ⟨some 94, none, .bin .lss (.tmp 93) (.const (.int .u8 128))⟩,
 ⟨some 95, none, .mov (.tmp 94)⟩,
 ⟨some 96, (some (95, false)), .mov (.tmp 12)⟩,
 ⟨some 97, (some (95, false)), .bin .lss (.const (.int .u8 191)) (.tmp 96)⟩,
 ⟨some 98, none, .pick (.tmp 95) (.const (.bool true)) (.tmp 97)⟩])
 (.cond (.tmp 98)
 (.seq (.ops [⟨some 2, none, .mov (.const (.int .i32 65533))⟩,
 ⟨some 3, none, .mov (.const (.int .i64 1))⟩])
 .ret)
 .skip))
 (.seq (.ops [⟨some 99, none, .mov (.tmp 5)⟩,
 ⟨some 100, none, .bin .and (.tmp 99) (.const (.int .u8 7))⟩,
 ⟨some 101, none, .cvi .i32 (.tmp 100)⟩,
 ⟨some 102, none, .bin .shl (.tmp 101) (.const (.int .u64 18))⟩,
 ⟨some 103, none, .mov (.tmp 10)⟩,
 ⟨some 104, none, .bin .and (.tmp 103) (.const (.int .u8 63))⟩,
 ⟨some 105, none, .cvi .i32 (.tmp 104)⟩,
 ⟨some 106, none, .bin .shl (.tmp 105) (.const (.int .u64 12))⟩,
 ⟨some 107, none, .bin .or (.tmp 102) (.tmp 106)⟩,
 ⟨some 108, none, .mov (.tmp 11)⟩,
 ⟨some 109, none, .bin .and (.tmp 108) (.const (.int .u8 63))⟩,
 ⟨some 110, none, .cvi .i32 (.tmp 109)⟩,
 ⟨some 111, none, .bin .shl (.tmp 110) (.const (.int .u64 6))⟩,
 ⟨some 112, none, .bin .or (.tmp 107) (.tmp 111)⟩,
 ⟨some 113, none, .mov (.tmp 12)⟩,
 ⟨some 114, none, .bin .and (.tmp 113) (.const (.int .u8 63))⟩,
 ⟨some 115, none, .cvi .i32 (.tmp 114)⟩,
 ⟨some 116, none, .bin .or (.tmp 112) (.tmp 115)⟩,
 ⟨some 2, none, .mov (.tmp 116)⟩,
 ⟨some 3, none, .mov (.const (.int .i64 4))⟩])
 .ret))))))))))))))))))⟩
theorem ok88 : compF Tryd.prog Tryd.f88 = some c88 := by kernel_rfl
def c89 : CF := ⟨8, [.tmp 4],
 (.seq (.ops [⟨some 4, none, .mov (.const (.int .i64 0))⟩])
 (.seq (.ops [⟨some 5, none, .mov (.tmp 0)⟩,
 ⟨some 6, none, .mov (.tmp 1)⟩,
 ⟨some 7, none, .call (.func 94) [(.tmp 5), (.tmp 6)]⟩,
 ⟨some 4, none, .mov (.tmp 7)⟩])
 .ret))⟩
theorem ok89 : compF Tryd.prog Tryd.f89 = some c89 := by kernel_rfl
def c90 : CF := ⟨6, [.tmp 2],
 (.seq (.ops [⟨some 2, none, .mov (.const (.int .i64 0))⟩])
 (.seq (.ops [⟨some 3, none, .mov (.tmp 0)⟩,
 ⟨some 4, none, .bin .add (.tmp 3) (.const (.int .i64 16))⟩,
 ⟨some 5, none, .bin .quo (.tmp 4) (.const (.int .i64 8))⟩,
 ⟨some 2, none, .mov (.tmp 5)⟩])
 .ret))⟩
theorem ok90 : compF Tryd.prog Tryd.f90 = some c90 := by kernel_rfl
def c92 : CF := ⟨22, [.tmp 2, .tmp 3],
 (.seq (.ops [⟨some 2, none, .mov (.const (.int .i32 0))⟩,
 ⟨some 3, none, .mov (.const (.int .i64 0))⟩])
 (.seq (.seq (.ops [⟨some 6, none, .mov (.tmp 0)⟩,
 ⟨some 7, none, .lnl (.tmp 6)⟩,
 ⟨some 8, none, .mov (.const (.int .i64 0))⟩])
 (.block 0 (.loop (.seq (.ops [⟨some 9, none, .bin .lss (.tmp 8) (.tmp 7)⟩])
 (.seq (.cond (.tmp 9)
 .skip
 (.exit 0))
 (.seq (.block 1 (.seq (.ops [⟨some 10, none, .iad 1 (.tmp 6) (.tmp 8)⟩,
 ⟨some 11, none, .ld1 (.tmp 10)⟩,
 ⟨some 5, none, .mov (.tmp 11)⟩])
 (.seq (.seq (.ops [⟨some 12, none, .mov (.tmp 5)⟩,
 ⟨some 13, none, .bin .lss (.tmp 12) (.const (.int .u8 128))⟩])
 (.cond (.tmp 13)
 (.seq (.ops [⟨some 14, none, .mov (.tmp 5)⟩,
 ⟨some 15, none, .cvi .i32 (.tmp 14)⟩,
 ⟨some 2, none, .mov (.tmp 15)⟩,
 ⟨some 3, none, .mov (.const (.int .i64 1))⟩])
 .ret)
 .skip))
 (.exit 0))))
 (.ops [⟨some 16, none, .bin .add (.tmp 8) (.const (.int .i64 1))⟩,
 ⟨some 8, none, .mov (.tmp 16)⟩])))))))
 (.seq (.ops [⟨some 18, none, .mov (.tmp 0)⟩,
 ⟨some 19, none, .call (.func 95) [(.tmp 18)]⟩,
 ⟨some 17, none, .mov (.tmp 19)⟩,
 ⟨some 20, none, .ext (.tmp 17) 0⟩,
 ⟨some 21, none, .ext (.tmp 17) 1⟩,
 ⟨some 2, none, .mov (.tmp 20)⟩,
 ⟨some 3, none, .mov (.tmp 21)⟩])
 .ret)))⟩
theorem ok92 : compF Tryd.prog Tryd.f92 = some c92 := by kernel_rfl
def c93 : CF := ⟨56, [.tmp 2],
 (.seq (.ops [⟨some 2, none, .mov (.const (.bool false))⟩])
 (.seq (.ops [⟨some 6, none, .mov (.tmp 0)⟩,
 ⟨some 7, none, .lnl (.tmp 6)⟩,
 ⟨some 3, none, .mov (.tmp 7)⟩])
 (.seq (.seq (.ops [⟨some 8, none, .mov (.tmp 3)⟩,
 ⟨some 9, none, .bin .eql (.tmp 8) (.const (.int .i64 0))⟩])
 (.cond (.tmp 9)
 (.seq (.ops [⟨some 2, none, .mov (.const (.bool false))⟩])
 .ret)
 .skip))
 (.seq (.ops [⟨some 10, none, .mov (.tmp 0)⟩,
 ⟨some 11, none, .iad 1 (.tmp 10) (.const (.int .i64 0))⟩,
 ⟨some 12, none, .ld1 (.tmp 11)⟩,
 ⟨some 13, none, .iaa 256 1 (.global 0) (.tmp 12)⟩,
 ⟨some 14, none, .ld1 (.tmp 13)⟩,
 ⟨some 4, none, .mov (.tmp 14)⟩])
 (.seq (.seq (.ops [⟨some 15, none, .mov (.tmp 3)⟩,
 ⟨some 16, none, .mov (.tmp 4)⟩,
 ⟨some 17, none, .bin .and (.tmp 16) (.const (.int .u8 7))⟩,
 ⟨some 18, none, .cvi .i64 (.tmp 17)⟩,
 ⟨some 19, none, .bin .geq (.tmp 15) (.tmp 18)⟩])
 (.cond (.tmp 19)
 (.seq (.ops [⟨some 2, none, .mov (.const (.bool true))⟩])
 .ret)
 .skip))
 (.seq (.ops [⟨some 20, none, .mov (.tmp 4)⟩,
 ⟨some 21, none, .bin .shr (.tmp 20) (.const (.int .u64 4))⟩,
 ⟨some 22, none, .iaa 16 2 (.global 1) (.tmp 21)⟩,
 ⟨some 23, none, .ld 2 (.tmp 22)⟩,
 ⟨some 5, none, .newz [(.int .u8 0), (.int .u8 0)]⟩,
 ⟨none, none, .st 2 (.tmp 5) (.tmp 23)⟩])
 (.seq (.seq (.draw [⟨some 24, none, .mov (.tmp 3)⟩,
 ⟨some 25, none, .bin .gtr (.tmp 24) (.const (.int .i64 1))⟩,
 ⟨some 26, none, .mov (.tmp 25)⟩,
 ⟨some 27, (some (26, true)), .mov (.tmp 0)⟩,
 ⟨some 28, (some (26, true)), .iad 1 (.tmp 27) (.const (.int .i64 1))⟩,
 ⟨some 29, (some (26, true)), .ld1 (.tmp 28)⟩,
 ⟨some 30, (some (26, true)), .fad (.tmp 5) 0⟩,
 ⟨some 31, (some (26, true)), .ld1 (.tmp 30)⟩,
 ⟨some 32, (some (26, true)), .bin .lss (.tmp 29) (.tmp 31)⟩,
 ⟨some 33, (some (26, true)), .mov (.tmp 32)⟩,
 ⟨some 34, (some (33, false)), .fad (.tmp 5) 1⟩,
 ⟨some 35, (some (33, false)), .ld1 (.tmp 34)⟩,
 ⟨some 36, (some (33, false)), .mov (.tmp 0)⟩,
 ⟨some 37, (some (33, false)), .iad 1 (.tmp 36) (.const (.int .i64 1))⟩,
 ⟨some 38, (some (33, false)), .ld1 (.tmp 37)⟩,
 ⟨some 39, (some (33, false)), .bin .lss (.tmp 35) (.tmp 38)⟩,
 ⟨some 40, (some (26, true)), .pick (.tmp 33) (.const (.bool true)) (.tmp 39)⟩,
 ⟨some 41, none, .pick (.tmp 26) (.tmp 40) (.const (.bool false))⟩] [(3, 6), (4, 6), (5, 6), (3, 7), (4, 7), (5, 7), (10, 12), (11, 12), (10, 13), (11, 13), (10, 14), (11, 14)])
 (.cond (.tmp 41)
 (.seq (.ops [⟨some 2, none, .mov (.const (.bool true))⟩])
 .ret)
 (.seq (.ops [⟨some 42, none, .mov (.tmp 3)⟩,
 ⟨some 43, none, .bin .gtr (.tmp 42) (.const (.int .i64 2))⟩,
 ⟨some 44, none, .mov (.tmp 43)⟩,
 ⟨some 45, (some (44, true)), .mov (.tmp 0)⟩,
 ⟨some 46, (some (44, true)), .iad 1 (.tmp 45) (.const (.int .i64 2))⟩,
 ⟨some 47, (some (44, true)), .ld1 (.tmp 46)⟩,
 ⟨some 48, (some (44, true)), .bin .lss (.tmp 47) (.const (.int .u8 128))⟩,
 ⟨some 49, (some (44, true)), .mov (.tmp 48)⟩,
 ⟨some 50, (some (49, false)), .mov (.tmp 0)⟩,
 ⟨some 51, (some (49, false)), .iad 1 (.tmp 50) (.const (.int .i64 2))⟩,
 ⟨some 52, (some (49, false)), .ld1 (.tmp 51)⟩,
 ⟨some 53, (some (49, false)), .bin .lss (.const (.int .u8 191)) (.tmp 52)⟩,
 ⟨some 54, (some (44, true)), .pick (.tmp 49) (.const (.bool true)) (.tmp 53)⟩,
 ⟨some 55, none, .pick (.tmp 44) (.tmp 54) (.const (.bool false))⟩])
 (.cond (.tmp 55)
 (.seq (.ops [⟨some 2, none, .mov (.const (.bool true))⟩])
 .ret)
 .skip))))
 (.seq (.ops [⟨some 2, none, .mov (.const (.bool false))⟩])
 .ret))))))))⟩
theorem ok93 : compF Tryd.prog Tryd.f93 = some c93 := by kernel_rfl
def c94 : CF := ⟨8, [.tmp 4],
 (.seq (.ops [⟨some 4, none, .mov (.const (.int .i64 0))⟩])
 (.seq (.ops [⟨some 5, none, .mov (.tmp 0)⟩,
 ⟨some 6, none, .mov (.tmp 1)⟩,
 ⟨some 7, none, .call (.func 96) [(.tmp 5), (.tmp 6)]⟩,
 ⟨some 4, none, .mov (.tmp 7)⟩])
 .ret))⟩
theorem ok94 : compF Tryd.prog Tryd.f94 = some c94 := by kernel_rfl
def c95 : CF := ⟨122, [.tmp 2, .tmp 3],
 (.seq (.ops [⟨some 2, none, .mov (.const (.int .i32 0))⟩,
 ⟨some 3, none, .mov (.const (.int .i64 0))⟩])
 (.seq (.ops [⟨some 13, none, .mov (.tmp 0)⟩,
 ⟨some 14, none, .lnl (.tmp 13)⟩,
 ⟨some 4, none, .mov (.tmp 14)⟩])
 (.seq (.seq (.ops [⟨some 15, none, .mov (.tmp 4)⟩,
 ⟨some 16, none, .bin .lss (.tmp 15) (.const (.int .i64 1))⟩])
 (.cond (.tmp 16)
 (.seq (.ops [⟨some 2, none, .mov (.const (.int .i32 65533))⟩,
 ⟨some 3, none, .mov (.const (.int .i64 0))⟩])
 .ret)
 .skip))
 (.seq (.ops [⟨some 17, none, .mov (.tmp 0)⟩,
 ⟨some 18, none, .iad 1 (.tmp 17) (.const (.int .i64 0))⟩,
 ⟨some 19, none, .ld1 (.tmp 18)⟩,
 ⟨some 5, none, .mov (.tmp 19)⟩])
 (.seq (.ops [⟨some 20, none, .mov (.tmp 5)⟩,
 ⟨some 21, none, .iaa 256 1 (.global 0) (.tmp 20)⟩,
 ⟨some 22, none, .ld1 (.tmp 21)⟩,
 ⟨some 6, none, .mov (.tmp 22)⟩])
 (.seq (.seq (.ops [⟨some 23, none, .mov (.tmp 6)⟩,
 ⟨some 24, none, .bin .geq (.tmp 23) (.const (.int .u8 240))⟩])
 (.cond (.tmp 24)
 (.seq (.ops [⟨some 25, none, .mov (.tmp 6)⟩,
 ⟨some 26, none, .cvi .i32 (.tmp 25)⟩,
 ⟨some 27, none, .bin .shl (.tmp 26) (.const (.int .u64 31))⟩,
 ⟨some 28, none, .bin .shr (.tmp 27) (.const (.int .u64 31))⟩,
 ⟨some 7, none, .mov (.tmp 28)⟩])
 (.seq (.ops [⟨some 29, none, .mov (.tmp 0)⟩,
 ⟨some 30, none, .iad 1 (.tmp 29) (.const (.int .i64 0))⟩,
 ⟨some 31, none, .ld1 (.tmp 30)⟩,
 ⟨some 32, none, .cvi .i32 (.tmp 31)⟩,
 ⟨some 33, none, .mov (.tmp 7)⟩,
 ⟨some 34, none, .bin .andNot (.tmp 32) (.tmp 33)⟩,
 ⟨some 35, none, .mov (.tmp 7)⟩,
 ⟨some 36, none, .bin .and (.const (.int .i32 65533)) (.tmp 35)⟩,
 ⟨some 37, none, .bin .or (.tmp 34) (.tmp 36)⟩,
 ⟨some 2, none, .mov (.tmp 37)⟩,
 ⟨some 3, none, .mov (.const (.int .i64 1))⟩])
 .ret))
 .skip))
 (.seq (.ops [⟨some 38, none, .mov (.tmp 6)⟩,
 ⟨some 39, none, .bin .and (.tmp 38) (.const (.int .u8 7))⟩,
 ⟨some 40, none, .cvi .i64 (.tmp 39)⟩,
 ⟨some 8, none, .mov (.tmp 40)⟩])
 (.seq (.ops [⟨some 41, none, .mov (.tmp 6)⟩,
 ⟨some 42, none, .bin .shr (.tmp 41) (.const (.int .u64 4))⟩,
 ⟨some 43, none, .iaa 16 2 (.global 1) (.tmp 42)⟩,
 ⟨some 44, none, .ld 2 (.tmp 43)⟩,
 ⟨some 9, none, .newz [(.int .u8 0), (.int .u8 0)]⟩,
 ⟨none, none, .st 2 (.tmp 9) (.tmp 44)⟩])
 (.seq (.seq (.ops [⟨some 45, none, .mov (.tmp 4)⟩,
 ⟨some 46, none, .mov (.tmp 8)⟩,
 ⟨some 47, none, .bin .lss (.tmp 45) (.tmp 46)⟩])
 (.cond (.tmp 47)
 (.seq (.ops [⟨some 2, none, .mov (.const (.int .i32 65533))⟩,
 ⟨some 3, none, .mov (.const (.int .i64 1))⟩])
 .ret)
 .skip))
 (.seq (.ops [⟨some 48, none, .mov (.tmp 0)⟩,
 ⟨some 49, none, .iad 1 (.tmp 48) (.const (.int .i64 1))⟩,
 ⟨some 50, none, .ld1 (.tmp 49)⟩,
 ⟨some 10, none, .mov (.tmp 50)⟩])
 (.seq (.seq (.ops [⟨some 51, none, .mov (.tmp 10)⟩,
 ⟨some 52, none, .fad (.tmp 9) 0⟩,
 ⟨some 53, none, .ld1 (.tmp 52)⟩,
 ⟨some 54, none, .bin .lss (.tmp 51) (.tmp 53)⟩,
 ⟨some 55, none, .mov (.tmp 54)⟩,
 ⟨some 56, (some (55, false)), .fad (.tmp 9) 1⟩,
 ⟨some 57, (some (55, false)), .ld1 (.tmp 56)⟩,
 ⟨some 58, (some (55, false)), .mov (.tmp 10)⟩,
 ⟨some 59, (some (55, false)), .bin .lss (.tmp 57) (.tmp 58)⟩,
 ⟨some 60, none, .pick (.tmp 55) (.const (.bool true)) (.tmp 59)⟩])
 (.cond (.tmp 60)
 (.seq (.ops [⟨some 2, none, .mov (.const (.int .i32 65533))⟩,
 ⟨some 3, none, .mov (.const (.int .i64 1))⟩])
 .ret)
 .skip))
 (.seq (.seq (.ops [⟨some 61, none, .mov (.tmp 8)⟩,
 ⟨some 62, none, .bin .leq (.tmp 61) (.const (.int .i64 2))⟩])
 (.cond (.tmp 62)
 (.seq (.ops [⟨some 63, none, .mov (.tmp 5)⟩,
 ⟨some 64, none, .bin .and (.tmp 63) (.const (.int .u8 31))⟩,
 ⟨some 65, none, .cvi .i32 (.tmp 64)⟩,
 ⟨some 66, none, .bin .shl (.tmp 65) (.const (.int .u64 6))⟩,
 ⟨some 67, none, .mov (.tmp 10)⟩,
 ⟨some 68, none, .bin .and (.tmp 67) (.const (.int .u8 63))⟩,
 ⟨some 69, none, .cvi .i32 (.tmp 68)⟩,
 ⟨some 70, none, .bin .or (.tmp 66) (.tmp 69)⟩,
 ⟨some 2, none, .mov (.tmp 70)⟩,
 ⟨some 3, none, .mov (.const (.int .i64 2))⟩])
 .ret)
 .skip))
 (.seq (.ops [⟨some 71, none, .mov (.tmp 0)⟩,
 ⟨some 72, none, .iad 1 (.tmp 71) (.const (.int .i64 2))⟩,
 ⟨some 73, none, .ld1 (.tmp 72)⟩,
 ⟨some 11, none, .mov (.tmp 73)⟩])
 (.seq (.seq (.ops [⟨some 74, none, .mov (.tmp 11)⟩,
 ⟨some 75, none, .bin .lss (.tmp 74) (.const (.int .u8 128))⟩,
 ⟨some 76, none, .mov (.tmp 75)⟩,
 ⟨some 77, (some (76, false)), .mov (.tmp 11)⟩,
 ⟨some 78, (some (76, false)), .bin .lss (.const (.int .u8 191)) (.tmp 77)⟩,
 ⟨some 79, none, .pick (.tmp 76) (.const (.bool true)) (.tmp 78)⟩])
 (.cond (.tmp 79)
 (.seq (.ops [⟨some 2, none, .mov (.const (.int .i32 65533))⟩,
 ⟨some 3, none, .mov (.const (.int .i64 1))⟩])
 .ret)
 .skip))
 (.seq (.seq (.ops [⟨some 80, none, .mov (.tmp 8)⟩,
 ⟨some 81, none, .bin .leq (.tmp 80) (.const (.int .i64 3))⟩])
 (.cond (.tmp 81)
 (.seq (.ops [⟨some 82, none, .mov (.tmp 5)⟩,
 ⟨some 83, none, .bin .and (.tmp 82) (.const (.int .u8 15))⟩,
 ⟨some 84, none, .cvi .i32 (.tmp 83)⟩,
 ⟨some 85, none, .bin .shl (.tmp 84) (.const (.int .u64 12))⟩,
 ⟨some 86, none, .mov (.tmp 10)⟩,
 ⟨some 87, none, .bin .and (.tmp 86) (.const (.int .u8 63))⟩,
 ⟨some 88, none, .cvi .i32 (.tmp 87)⟩,
 ⟨some 89, none, .bin .shl (.tmp 88) (.const (.int .u64 6))⟩,
 ⟨some 90, none, .bin .or (.tmp 85) (.tmp 89)⟩,
 ⟨some 91, none, .mov (.tmp 11)⟩,
 ⟨some 92, none, .bin .and (.tmp 91) (.const (.int .u8 63))⟩,
 ⟨some 93, none, .cvi .i32 (.tmp 92)⟩,
 ⟨some 94, none, .bin .or (.tmp 90) (.tmp 93)⟩,
 ⟨some 2, none, .mov (.tmp 94)⟩,
 ⟨some 3, none, .mov (.const (.int .i64 3))⟩])
 .ret)
 .skip))
 (.seq (.ops [⟨some 95, none, .mov (.tmp 0)⟩,
 ⟨some 96, none, .iad 1 (.tmp 95) (.const (.int .i64 3))⟩,
 ⟨some 97, none, .ld1 (.tmp 96)⟩,
 ⟨some 12, none, .mov (.tmp 97)⟩])
 (.seq (.seq (.ops [⟨some 98, none, .mov (.tmp 12)⟩,
 ⟨some 99, none, .bin .lss (.tmp 98) (.const (.int .u8 128))⟩,
 ⟨some 100, none, .mov (.tmp 99)⟩,
 ⟨some 101, (some (100, false)), .mov (.tmp 12)⟩,
 ⟨some 102, (some (100, false)), .bin .lss (.const (.int .u8 191)) (.tmp 101)⟩,
 ⟨some 103, none, .pick (.tmp 100) (.const (.bool true)) (.tmp 102)⟩])
 (.cond (.tmp 103)
 (.seq (.ops [⟨some 2, none, .mov (.const (.int .i32 65533))⟩,
 ⟨some 3, none, .mov (.const (.int .i64 1))⟩])
 .ret)
 .skip))
 (.seq (.ops [⟨some 104, none, .mov (.tmp 5)⟩,
 ⟨some 105, none, .bin .and (.tmp 104) (.const (.int .u8 7))⟩,
 ⟨some 106, none, .cvi .i32 (.tmp 105)⟩,
 ⟨some 107, none, .bin .shl (.tmp 106) (.const (.int .u64 18))⟩,
 ⟨some 108, none, .mov (.tmp 10)⟩,
 ⟨some 109, none, .bin .and (.tmp 108) (.const (.int .u8 63))⟩,
 ⟨some 110, none, .cvi .i32 (.tmp 109)⟩,
 ⟨some 111, none, .bin .shl (.tmp 110) (.const (.int .u64 12))⟩,
 ⟨some 112, none, .bin .or (.tmp 107) (.tmp 111)⟩,
 ⟨some 113, none, .mov (.tmp 11)⟩,
 ⟨some 114, none, .bin .and (.tmp 113) (.const (.int .u8 63))⟩,
 ⟨some 115, none, .cvi .i32 (.tmp 114)⟩,
 ⟨some 116, none, .bin .shl (.tmp 115) (.const (.int .u64 6))⟩,
 ⟨some 117, none, .bin .or (.tmp 112) (.tmp 116)⟩,
 ⟨some 118, none, .mov (.tmp 12)⟩,
 ⟨some 119, none, .bin .and (.tmp 118) (.const (.int .u8 63))⟩,
 ⟨some 120, none, .cvi .i32 (.tmp 119)⟩,
 ⟨some 121, none, .bin .or (.tmp 117) (.tmp 120)⟩,
 ⟨some 2, none, .mov (.tmp 121)⟩,
 ⟨some 3, none, .mov (.const (.int .i64 4))⟩])
 .ret))))))))))))))))))⟩
theorem ok95 : compF Tryd.prog Tryd.f95 = some c95 := by kernel_rfl
def codes : List (Nat × CF) := [(4, c4), (7, c7), (8, c8), (9, c9), (11, c11), (12, c12), (13, c13), (15, c15), (17, c17), (18, c18), (19, c19), (20, c20), (21, c21), (22, c22), (23, c23), (24, c24), (25, c25), (26, c26), (27, c27), (28, c28), (29, c29), (30, c30), (31, c31), (32, c32), (33, c33), (34, c34), (35, c35), (36, c36), (37, c37), (38, c38), (39, c39), (40, c40), (41, c41), (42, c42), (43, c43), (44, c44), (45, c45), (46, c46), (47, c47), (48, c48), (49, c49), (50, c50), (51, c51), (52, c52), (53, c53), (54, c54), (55, c55), (56, c56), (57, c57), (58, c58), (59, c59), (60, c60), (61, c61), (62, c62), (63, c63), (64, c64), (65, c65), (66, c66), (67, c67), (68, c68), (69, c69), (70, c70), (71, c71), (72, c72), (73, c73), (74, c74), (75, c75), (76, c76), (77, c77), (78, c78), (79, c79), (80, c80), (81, c81), (82, c82), (83, c83), (84, c84), (85, c85), (86, c86), (87, c87), (88, c88), (89, c89), (90, c90), (92, c92), (93, c93), (94, c94), (95, c95)]
noncomputable def code : FuncId → Option CF := fget (tabOf codes)
theorem code_ok : ∀ f cf, code f = some cf → ∃ fn, Tryd.prog.funcs[f]? = some fn ∧ compF Tryd.prog fn = some cf := by
  refine code_of_tab ?_
  refine List.forall_mem_cons.2 ⟨⟨_, Tryd.func4, ok4⟩, ?_⟩
  refine List.forall_mem_cons.2 ⟨⟨_, Tryd.func7, ok7⟩, ?_⟩
  refine List.forall_mem_cons.2 ⟨⟨_, Tryd.func8, ok8⟩, ?_⟩
  refine List.forall_mem_cons.2 ⟨⟨_, Tryd.func9, ok9⟩, ?_⟩
  refine List.forall_mem_cons.2 ⟨⟨_, Tryd.func11, ok11⟩, ?_⟩
  refine List.forall_mem_cons.2 ⟨⟨_, Tryd.func12, ok12⟩, ?_⟩
  refine List.forall_mem_cons.2 ⟨⟨_, Tryd.func13, ok13⟩, ?_⟩
  refine List.forall_mem_cons.2 ⟨⟨_, Tryd.func15, ok15⟩, ?_⟩
  refine List.forall_mem_cons.2 ⟨⟨_, Tryd.func17, ok17⟩, ?_⟩
  refine List.forall_mem_cons.2 ⟨⟨_, Tryd.func18, ok18⟩, ?_⟩
  refine List.forall_mem_cons.2 ⟨⟨_, Tryd.func19, ok19⟩, ?_⟩
  refine List.forall_mem_cons.2 ⟨⟨_, Tryd.func20, ok20⟩, ?_⟩
  refine List.forall_mem_cons.2 ⟨⟨_, Tryd.func21, ok21⟩, ?_⟩
  refine List.forall_mem_cons.2 ⟨⟨_, Tryd.func22, ok22⟩, ?_⟩
  refine List.forall_mem_cons.2 ⟨⟨_, Tryd.func23, ok23⟩, ?_⟩
  refine List.forall_mem_cons.2 ⟨⟨_, Tryd.func24, ok24⟩, ?_⟩
  refine List.forall_mem_cons.2 ⟨⟨_, Tryd.func25, ok25⟩, ?_⟩
  refine List.forall_mem_cons.2 ⟨⟨_, Tryd.func26, ok26⟩, ?_⟩
  refine List.forall_mem_cons.2 ⟨⟨_, Tryd.func27, ok27⟩, ?_⟩
  refine List.forall_mem_cons.2 ⟨⟨_, Tryd.func28, ok28⟩, ?_⟩
  refine List.forall_mem_cons.2 ⟨⟨_, Tryd.func29, ok29⟩, ?_⟩
  refine List.forall_mem_cons.2 ⟨⟨_, Tryd.func30, ok30⟩, ?_⟩
  refine List.forall_mem_cons.2 ⟨⟨_, Tryd.func31, ok31⟩, ?_⟩
  refine List.forall_mem_cons.2 ⟨⟨_, Tryd.func32, ok32⟩, ?_⟩
  refine List.forall_mem_cons.2 ⟨⟨_, Tryd.func33, ok33⟩, ?_⟩
  refine List.forall_mem_cons.2 ⟨⟨_, Tryd.func34, ok34⟩, ?_⟩
  refine List.forall_mem_cons.2 ⟨⟨_, Tryd.func35, ok35⟩, ?_⟩
  refine List.forall_mem_cons.2 ⟨⟨_, Tryd.func36, ok36⟩, ?_⟩
  refine List.forall_mem_cons.2 ⟨⟨_, Tryd.func37, ok37⟩, ?_⟩
  refine List.forall_mem_cons.2 ⟨⟨_, Tryd.func38, ok38⟩, ?_⟩
  refine List.forall_mem_cons.2 ⟨⟨_, Tryd.func39, ok39⟩, ?_⟩
  refine List.forall_mem_cons.2 ⟨⟨_, Tryd.func40, ok40⟩, ?_⟩
  refine List.forall_mem_cons.2 ⟨⟨_, Tryd.func41, ok41⟩, ?_⟩
  refine List.forall_mem_cons.2 ⟨⟨_, Tryd.func42, ok42⟩, ?_⟩
  refine List.forall_mem_cons.2 ⟨⟨_, Tryd.func43, ok43⟩, ?_⟩
  refine List.forall_mem_cons.2 ⟨⟨_, Tryd.func44, ok44⟩, ?_⟩
  refine List.forall_mem_cons.2 ⟨⟨_, Tryd.func45, ok45⟩, ?_⟩
  refine List.forall_mem_cons.2 ⟨⟨_, Tryd.func46, ok46⟩, ?_⟩
  refine List.forall_mem_cons.2 ⟨⟨_, Tryd.func47, ok47⟩, ?_⟩
  refine List.forall_mem_cons.2 ⟨⟨_, Tryd.func48, ok48⟩, ?_⟩
  refine List.forall_mem_cons.2 ⟨⟨_, Tryd.func49, ok49⟩, ?_⟩
  refine List.forall_mem_cons.2 ⟨⟨_, Tryd.func50, ok50⟩, ?_⟩
  refine List.forall_mem_cons.2 ⟨⟨_, Tryd.func51, ok51⟩, ?_⟩
  refine List.forall_mem_cons.2 ⟨⟨_, Tryd.func52, ok52⟩, ?_⟩
  refine List.forall_mem_cons.2 ⟨⟨_, Tryd.func53, ok53⟩, ?_⟩
  refine List.forall_mem_cons.2 ⟨⟨_, Tryd.func54, ok54⟩, ?_⟩
  refine List.forall_mem_cons.2 ⟨⟨_, Tryd.func55, ok55⟩, ?_⟩
  refine List.forall_mem_cons.2 ⟨⟨_, Tryd.func56, ok56⟩, ?_⟩
  refine List.forall_mem_cons.2 ⟨⟨_, Tryd.func57, ok57⟩, ?_⟩
  refine List.forall_mem_cons.2 ⟨⟨_, Tryd.func58, ok58⟩, ?_⟩
  refine List.forall_mem_cons.2 ⟨⟨_, Tryd.func59, ok59⟩, ?_⟩
  refine List.forall_mem_cons.2 ⟨⟨_, Tryd.func60, ok60⟩, ?_⟩
  refine List.forall_mem_cons.2 ⟨⟨_, Tryd.func61, ok61⟩, ?_⟩
  refine List.forall_mem_cons.2 ⟨⟨_, Tryd.func62, ok62⟩, ?_⟩
  refine List.forall_mem_cons.2 ⟨⟨_, Tryd.func63, ok63⟩, ?_⟩
  refine List.forall_mem_cons.2 ⟨⟨_, Tryd.func64, ok64⟩, ?_⟩
  refine List.forall_mem_cons.2 ⟨⟨_, Tryd.func65, ok65⟩, ?_⟩
  refine List.forall_mem_cons.2 ⟨⟨_, Tryd.func66, ok66⟩, ?_⟩
  refine List.forall_mem_cons.2 ⟨⟨_, Tryd.func67, ok67⟩, ?_⟩
  refine List.forall_mem_cons.2 ⟨⟨_, Tryd.func68, ok68⟩, ?_⟩
  refine List.forall_mem_cons.2 ⟨⟨_, Tryd.func69, ok69⟩, ?_⟩
  refine List.forall_mem_cons.2 ⟨⟨_, Tryd.func70, ok70⟩, ?_⟩
  refine List.forall_mem_cons.2 ⟨⟨_, Tryd.func71, ok71⟩, ?_⟩
  refine List.forall_mem_cons.2 ⟨⟨_, Tryd.func72, ok72⟩, ?_⟩
  refine List.forall_mem_cons.2 ⟨⟨_, Tryd.func73, ok73⟩, ?_⟩
  refine List.forall_mem_cons.2 ⟨⟨_, Tryd.func74, ok74⟩, ?_⟩
  refine List.forall_mem_cons.2 ⟨⟨_, Tryd.func75, ok75⟩, ?_⟩
  refine List.forall_mem_cons.2 ⟨⟨_, Tryd.func76, ok76⟩, ?_⟩
  refine List.forall_mem_cons.2 ⟨⟨_, Tryd.func77, ok77⟩, ?_⟩
  refine List.forall_mem_cons.2 ⟨⟨_, Tryd.func78, ok78⟩, ?_⟩
  refine List.forall_mem_cons.2 ⟨⟨_, Tryd.func79, ok79⟩, ?_⟩
  refine List.forall_mem_cons.2 ⟨⟨_, Tryd.func80, ok80⟩, ?_⟩
  refine List.forall_mem_cons.2 ⟨⟨_, Tryd.func81, ok81⟩, ?_⟩
  refine List.forall_mem_cons.2 ⟨⟨_, Tryd.func82, ok82⟩, ?_⟩
  refine List.forall_mem_cons.2 ⟨⟨_, Tryd.func83, ok83⟩, ?_⟩
  refine List.forall_mem_cons.2 ⟨⟨_, Tryd.func84, ok84⟩, ?_⟩
  refine List.forall_mem_cons.2 ⟨⟨_, Tryd.func85, ok85⟩, ?_⟩
  refine List.forall_mem_cons.2 ⟨⟨_, Tryd.func86, ok86⟩, ?_⟩
  refine List.forall_mem_cons.2 ⟨⟨_, Tryd.func87, ok87⟩, ?_⟩
  refine List.forall_mem_cons.2 ⟨⟨_, Tryd.func88, ok88⟩, ?_⟩
  refine List.forall_mem_cons.2 ⟨⟨_, Tryd.func89, ok89⟩, ?_⟩
  refine List.forall_mem_cons.2 ⟨⟨_, Tryd.func90, ok90⟩, ?_⟩
  refine List.forall_mem_cons.2 ⟨⟨_, Tryd.func92, ok92⟩, ?_⟩
  refine List.forall_mem_cons.2 ⟨⟨_, Tryd.func93, ok93⟩, ?_⟩
  refine List.forall_mem_cons.2 ⟨⟨_, Tryd.func94, ok94⟩, ?_⟩
  refine List.forall_mem_cons.2 ⟨⟨_, Tryd.func95, ok95⟩, ?_⟩
  exact fun _ h => (by cases h)
end Go.Proofs.YtfonnebpnobomaaDoor.code
