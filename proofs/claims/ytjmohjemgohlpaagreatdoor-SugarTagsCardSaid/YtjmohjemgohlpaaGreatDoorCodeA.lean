/- The code that the law reaches, as the interpreter takes it; each function's is shown to be the program's own. By an AI agent. No person has read it. -/
import Derived.Test.YtjmohjemgohlpaaGreatDoorAm4
import Derived.Test.YtjmohjemgohlpaaGreatDoorChecked
import Derived.KernelRfl
namespace Go.Proofs.YtjmohjemgohlpaaGreatDoor.code
open Go Am
set_option maxRecDepth 100000
def c3 : CF := ⟨77, [.tmp 4],
 (.seq (.ops [⟨some 4, none, .mov (.const (.bool false))⟩])
 (.seq (.ops [⟨some 17, none, .mov (.tmp 0)⟩,
 ⟨some 18, none, .call (.func 4) [(.tmp 17)]⟩,
 ⟨some 16, none, .mov (.tmp 18)⟩,
 ⟨some 19, none, .ext (.tmp 16) 0⟩,
 ⟨some 20, none, .ext (.tmp 16) 1⟩,
 ⟨some 5, none, .mov (.tmp 19)⟩,
 ⟨some 6, none, .mov (.tmp 20)⟩])
 (.seq (.ops [⟨some 22, none, .mov (.tmp 0)⟩,
 ⟨some 23, none, .call (.func 5) [(.tmp 22)]⟩,
 ⟨some 21, none, .mov (.tmp 23)⟩,
 ⟨some 24, none, .ext (.tmp 21) 0⟩,
 ⟨some 25, none, .ext (.tmp 21) 1⟩,
 ⟨some 7, none, .mov (.tmp 24)⟩,
 ⟨some 8, none, .mov (.tmp 25)⟩])
 (.seq (.ops [⟨some 27, none, .mov (.tmp 1)⟩,
 ⟨some 28, none, .call (.func 6) [(.tmp 27)]⟩,
 ⟨some 26, none, .mov (.tmp 28)⟩,
 ⟨some 29, none, .ext (.tmp 26) 0⟩,
 ⟨some 30, none, .ext (.tmp 26) 1⟩,
 ⟨some 9, none, .mov (.tmp 29)⟩,
 ⟨some 10, none, .mov (.tmp 30)⟩])
 (.seq (.ops [⟨some 32, none, .mov (.tmp 1)⟩,
 ⟨some 33, none, .call (.func 7) [(.tmp 32)]⟩,
 ⟨some 31, none, .mov (.tmp 33)⟩,
 ⟨some 34, none, .ext (.tmp 31) 0⟩,
 ⟨some 35, none, .ext (.tmp 31) 1⟩,
 ⟨some 11, none, .mov (.tmp 34)⟩,
 ⟨some 12, none, .mov (.tmp 35)⟩])
 (.seq (.seq (.ops [⟨some 36, none, .mov (.tmp 5)⟩,
 ⟨some 37, none, .mov (.tmp 7)⟩,
 ⟨some 38, none, .call (.func 8) [(.tmp 36), (.tmp 37)]⟩,
 ⟨some 39, none, .un .not (.tmp 38)⟩,
 ⟨some 40, none, .mov (.tmp 39)⟩,
 ⟨some 41, (some (40, false)), .mov (.tmp 6)⟩,
 ⟨some 42, (some (40, false)), .mov (.tmp 8)⟩,
 ⟨some 43, (some (40, false)), .bin .neq (.tmp 41) (.tmp 42)⟩,
 ⟨some 44, none, .pick (.tmp 40) (.const (.bool true)) (.tmp 43)⟩,
 ⟨some 45, none, .mov (.tmp 44)⟩,
 ⟨some 46, (some (45, false)), .mov (.tmp 9)⟩,
 ⟨some 47, (some (45, false)), .mov (.tmp 11)⟩,
 ⟨some 48, (some (45, false)), .bin .neq (.tmp 46) (.tmp 47)⟩,
 ⟨some 49, none, .pick (.tmp 45) (.const (.bool true)) (.tmp 48)⟩,
 ⟨some 50, none, .mov (.tmp 49)⟩,
 ⟨some 51, (some (50, false)), .mov (.tmp 10)⟩,
 ⟨some 52, (some (50, false)), .mov (.tmp 12)⟩,
 ⟨some 53, (some (50, false)), .bin .neq (.tmp 51) (.tmp 52)⟩,
 ⟨some 54, none, .pick (.tmp 50) (.const (.bool true)) (.tmp 53)⟩])
 (.cond (.tmp 54)
 (.seq (.ops [⟨some 4, none, .mov (.const (.bool false))⟩])
 .ret)
 .skip))
 (.seq (.seq (.ops [⟨some 13, none, .mov (.const (.int .i64 0))⟩])
 (.block 0 (.loop (.seq (.seq (.ops [⟨some 55, none, .mov (.tmp 13)⟩,
 ⟨some 56, none, .mov (.tmp 5)⟩,
 ⟨some 57, none, .lnl (.tmp 56)⟩,
 ⟨some 58, none, .bin .lss (.tmp 55) (.tmp 57)⟩])
 (.cond (.tmp 58)
 .skip
 (.exit 0)))
 (.seq (.block 1 (.seq (.ops [⟨some 62, none, .mov (.tmp 5)⟩,
 ⟨some 63, none, .mov (.tmp 13)⟩,
 ⟨some 64, none, .iad 1 (.tmp 62) (.tmp 63)⟩,
 ⟨some 65, none, .ld1 (.tmp 64)⟩,
 ⟨some 66, none, .call (.func 6) [(.tmp 65)]⟩,
 ⟨some 61, none, .mov (.tmp 66)⟩,
 ⟨some 67, none, .ext (.tmp 61) 0⟩,
 ⟨some 68, none, .ext (.tmp 61) 1⟩,
 ⟨some 14, none, .mov (.tmp 67)⟩,
 ⟨some 15, none, .mov (.tmp 68)⟩])
 (.seq (.ops [⟨some 69, none, .mov (.tmp 15)⟩,
 ⟨some 70, none, .bin .neq (.tmp 69) (.const (.int .i64 0))⟩,
 ⟨some 71, none, .mov (.tmp 70)⟩,
 ⟨some 72, (some (71, false)), .mov (.tmp 14)⟩,
 ⟨some 73, (some (71, false)), .mov (.tmp 0)⟩,
 ⟨some 74, (some (71, false)), .bin .neq (.tmp 72) (.tmp 73)⟩,
 ⟨some 75, none, .pick (.tmp 71) (.const (.bool true)) (.tmp 74)⟩])
 (.cond (.tmp 75)
 (.seq (.ops [⟨some 4, none, .mov (.const (.bool false))⟩])
 .ret)
 .skip))))
 (.ops [⟨some 59, none, .mov (.tmp 13)⟩,
 ⟨some 60, none, .bin .add (.tmp 59) (.const (.int .i64 1))⟩,
 ⟨some 13, none, .mov (.tmp 60)⟩]))))))
 (.seq (.ops [⟨some 76, none, .call (.func 9) []⟩,
 ⟨some 4, none, .mov (.tmp 76)⟩])
 .ret))))))))⟩
theorem ok3 : compF Tryz.prog Tryz.f3 = some c3 := by kernel_rfl
def c4 : CF := ⟨31, [.tmp 2, .tmp 3],
 (.seq (.ops [⟨some 2, none, .mov (.const (.slice none 0 0))⟩,
 ⟨some 3, none, .mov (.const (.int .i64 0))⟩])
 (.seq (.seq (.ops [⟨some 7, none, .mov (.tmp 0)⟩,
 ⟨some 8, none, .bin .lss (.tmp 7) (.const (.int .i64 1))⟩,
 ⟨some 9, none, .mov (.tmp 8)⟩,
 ⟨some 10, (some (9, false)), .mov (.tmp 0)⟩,
 ⟨some 11, (some (9, false)), .bin .gtr (.tmp 10) (.const (.int .i64 24))⟩,
 ⟨some 12, none, .pick (.tmp 9) (.const (.bool true)) (.tmp 11)⟩])
 (.cond (.tmp 12)
 (.seq (.ops [⟨some 2, none, .mov (.const (.slice none 0 0))⟩,
 ⟨some 3, none, .mov (.const (.int .i64 4))⟩])
 .ret)
 .skip))
 (.seq (.ops [⟨some 4, none, .mov (.const (.slice none 0 0))⟩])
 (.seq (.seq (.ops [⟨some 13, none, .ld 34 (.global 0)⟩,
 ⟨some 14, none, .mov (.const (.int .i64 0))⟩])
 (.block 0 (.loop (.seq (.ops [⟨some 15, none, .bin .lss (.tmp 14) (.const (.int .i64 34))⟩])
 (.seq (.cond (.tmp 15)
 .skip
 (.exit 0))
 (.seq (.block 1 (.seq (.ops [⟨some 16, none, .mov (.tmp 14)⟩,
 ⟨some 17, none, .ida1 34 1 (.tmp 13) (.tmp 14)⟩,
 ⟨some 5, none, .mov (.tmp 16)⟩,
 ⟨some 6, none, .mov (.tmp 17)⟩])
 (.seq (.ops [⟨some 18, none, .mov (.tmp 5)⟩,
 ⟨some 19, none, .bin .gtr (.tmp 18) (.const (.int .i64 0))⟩,
 ⟨some 20, none, .mov (.tmp 19)⟩,
 ⟨some 21, (some (20, true)), .mov (.tmp 6)⟩,
 ⟨some 22, (some (20, true)), .mov (.tmp 0)⟩,
 ⟨some 23, (some (20, true)), .bin .eql (.tmp 21) (.tmp 22)⟩,
 ⟨some 24, none, .pick (.tmp 20) (.tmp 23) (.const (.bool false))⟩])
 (.cond (.tmp 24)
 (.ops [⟨some 25, none, .mov (.tmp 4)⟩,
 ⟨some 26, none, .mov (.tmp 5)⟩,
 ⟨some 27, none, .lits [(.int .i64 0)] 1 [(0, 1, (.tmp 26))]⟩,
 ⟨some 28, none, .app 1 8 none (.tmp 25) (.tmp 27)⟩,
 ⟨some 4, none, .mov (.tmp 28)⟩])
 .skip))))
 (.ops [⟨some 29, none, .bin .add (.tmp 14) (.const (.int .i64 1))⟩,
 ⟨some 14, none, .mov (.tmp 29)⟩])))))))
 (.seq (.ops [⟨some 30, none, .mov (.tmp 4)⟩,
 ⟨some 2, none, .mov (.tmp 30)⟩,
 ⟨some 3, none, .mov (.const (.int .i64 0))⟩])
 .ret)))))⟩
theorem ok4 : compF Tryz.prog Tryz.f4 = some c4 := by kernel_rfl
def c5 : CF := ⟨35, [.tmp 2, .tmp 3],
 (.seq (.ops [⟨some 2, none, .mov (.const (.slice none 0 0))⟩,
 ⟨some 3, none, .mov (.const (.int .i64 0))⟩])
 (.seq (.seq (.ops [⟨some 8, none, .mov (.tmp 0)⟩,
 ⟨some 9, none, .bin .lss (.tmp 8) (.const (.int .i64 1))⟩,
 ⟨some 10, none, .mov (.tmp 9)⟩,
 ⟨some 11, (some (10, false)), .mov (.tmp 0)⟩,
 ⟨some 12, (some (10, false)), .bin .gtr (.tmp 11) (.const (.int .i64 24))⟩,
 ⟨some 13, none, .pick (.tmp 10) (.const (.bool true)) (.tmp 12)⟩])
 (.cond (.tmp 13)
 (.seq (.ops [⟨some 2, none, .mov (.const (.slice none 0 0))⟩,
 ⟨some 3, none, .mov (.const (.int .i64 4))⟩])
 .ret)
 .skip))
 (.seq (.ops [⟨some 4, none, .mov (.const (.slice none 0 0))⟩])
 (.seq (.seq (.ops [⟨some 5, none, .mov (.const (.int .i64 1))⟩])
 (.block 0 (.loop (.seq (.seq (.ops [⟨some 14, none, .mov (.tmp 5)⟩,
 ⟨some 15, none, .bin .leq (.tmp 14) (.const (.int .i64 33))⟩])
 (.cond (.tmp 15)
 .skip
 (.exit 0)))
 (.seq (.block 1 (.seq (.ops [⟨some 19, none, .mov (.tmp 5)⟩,
 ⟨some 20, none, .call (.func 7) [(.tmp 19)]⟩,
 ⟨some 18, none, .mov (.tmp 20)⟩,
 ⟨some 21, none, .ext (.tmp 18) 0⟩,
 ⟨some 22, none, .ext (.tmp 18) 1⟩,
 ⟨some 6, none, .mov (.tmp 21)⟩,
 ⟨some 7, none, .mov (.tmp 22)⟩])
 (.seq (.ops [⟨some 23, none, .mov (.tmp 7)⟩,
 ⟨some 24, none, .bin .eql (.tmp 23) (.const (.int .i64 0))⟩,
 ⟨some 25, none, .mov (.tmp 24)⟩,
 ⟨some 26, (some (25, true)), .mov (.tmp 6)⟩,
 ⟨some 27, (some (25, true)), .mov (.tmp 0)⟩,
 ⟨some 28, (some (25, true)), .bin .eql (.tmp 26) (.tmp 27)⟩,
 ⟨some 29, none, .pick (.tmp 25) (.tmp 28) (.const (.bool false))⟩])
 (.cond (.tmp 29)
 (.ops [⟨some 30, none, .mov (.tmp 4)⟩,
 ⟨some 31, none, .mov (.tmp 5)⟩,
 ⟨some 32, none, .lits [(.int .i64 0)] 1 [(0, 1, (.tmp 31))]⟩,
 ⟨some 33, none, .app 1 8 none (.tmp 30) (.tmp 32)⟩,
 ⟨some 4, none, .mov (.tmp 33)⟩])
 .skip))))
 (.ops [⟨some 16, none, .mov (.tmp 5)⟩,
 ⟨some 17, none, .bin .add (.tmp 16) (.const (.int .i64 1))⟩,
 ⟨some 5, none, .mov (.tmp 17)⟩]))))))
 (.seq (.ops [⟨some 34, none, .mov (.tmp 4)⟩,
 ⟨some 2, none, .mov (.tmp 34)⟩,
 ⟨some 3, none, .mov (.const (.int .i64 0))⟩])
 .ret)))))⟩
theorem ok5 : compF Tryz.prog Tryz.f5 = some c5 := by kernel_rfl
def c6 : CF := ⟨13, [.tmp 2, .tmp 3],
 (.seq (.ops [⟨some 2, none, .mov (.const (.int .i64 0))⟩,
 ⟨some 3, none, .mov (.const (.int .i64 0))⟩])
 (.seq (.seq (.ops [⟨some 4, none, .mov (.tmp 0)⟩,
 ⟨some 5, none, .bin .lss (.tmp 4) (.const (.int .i64 1))⟩,
 ⟨some 6, none, .mov (.tmp 5)⟩,
 ⟨some 7, (some (6, false)), .mov (.tmp 0)⟩,
 ⟨some 8, (some (6, false)), .bin .geq (.tmp 7) (.const (.int .i64 34))⟩,
 ⟨some 9, none, .pick (.tmp 6) (.const (.bool true)) (.tmp 8)⟩])
 (.cond (.tmp 9)
 (.seq (.ops [⟨some 2, none, .mov (.const (.int .i64 0))⟩,
 ⟨some 3, none, .mov (.const (.int .i64 4))⟩])
 .ret)
 .skip))
 (.seq (.ops [⟨some 10, none, .mov (.tmp 0)⟩,
 ⟨some 11, none, .iaa 34 1 (.global 0) (.tmp 10)⟩,
 ⟨some 12, none, .ld1 (.tmp 11)⟩,
 ⟨some 2, none, .mov (.tmp 12)⟩,
 ⟨some 3, none, .mov (.const (.int .i64 0))⟩])
 .ret)))⟩
theorem ok6 : compF Tryz.prog Tryz.f6 = some c6 := by kernel_rfl
def c7 : CF := ⟨48, [.tmp 2, .tmp 3],
 (.seq (.ops [⟨some 2, none, .mov (.const (.int .i64 0))⟩,
 ⟨some 3, none, .mov (.const (.int .i64 0))⟩])
 (.seq (.seq (.ops [⟨some 4, none, .mov (.tmp 0)⟩])
 (.block 0 (.seq (.seq (.ops [⟨some 6, none, .bin .eql (.tmp 4) (.const (.int .i64 1))⟩,
 ⟨some 5, none, .mov (.tmp 6)⟩])
 (.cond (.tmp 5)
 .skip
 (.ops [⟨some 7, none, .bin .eql (.tmp 4) (.const (.int .i64 2))⟩,
 ⟨some 5, none, .mov (.tmp 7)⟩])))
 (.cond (.tmp 5)
 (.seq (.ops [⟨some 2, none, .mov (.const (.int .i64 12))⟩,
 ⟨some 3, none, .mov (.const (.int .i64 0))⟩])
 .ret)
 (.seq (.seq (.ops [⟨some 9, none, .bin .eql (.tmp 4) (.const (.int .i64 3))⟩,
 ⟨some 8, none, .mov (.tmp 9)⟩])
 (.cond (.tmp 8)
 .skip
 (.seq (.ops [⟨some 10, none, .bin .eql (.tmp 4) (.const (.int .i64 4))⟩,
 ⟨some 8, none, .mov (.tmp 10)⟩])
 (.cond (.tmp 8)
 .skip
 (.seq (.ops [⟨some 11, none, .bin .eql (.tmp 4) (.const (.int .i64 5))⟩,
 ⟨some 8, none, .mov (.tmp 11)⟩])
 (.cond (.tmp 8)
 .skip
 (.ops [⟨some 12, none, .bin .eql (.tmp 4) (.const (.int .i64 6))⟩,
 ⟨some 8, none, .mov (.tmp 12)⟩])))))))
 (.cond (.tmp 8)
 (.seq (.ops [⟨some 2, none, .mov (.const (.int .i64 13))⟩,
 ⟨some 3, none, .mov (.const (.int .i64 0))⟩])
 .ret)
 (.seq (.seq (.ops [⟨some 14, none, .bin .eql (.tmp 4) (.const (.int .i64 7))⟩,
 ⟨some 13, none, .mov (.tmp 14)⟩])
 (.cond (.tmp 13)
 .skip
 (.seq (.ops [⟨some 15, none, .bin .eql (.tmp 4) (.const (.int .i64 26))⟩,
 ⟨some 13, none, .mov (.tmp 15)⟩])
 (.cond (.tmp 13)
 .skip
 (.ops [⟨some 16, none, .bin .eql (.tmp 4) (.const (.int .i64 27))⟩,
 ⟨some 13, none, .mov (.tmp 16)⟩])))))
 (.cond (.tmp 13)
 (.seq (.ops [⟨some 2, none, .mov (.const (.int .i64 14))⟩,
 ⟨some 3, none, .mov (.const (.int .i64 0))⟩])
 .ret)
 (.seq (.seq (.ops [⟨some 18, none, .bin .eql (.tmp 4) (.const (.int .i64 8))⟩,
 ⟨some 17, none, .mov (.tmp 18)⟩])
 (.cond (.tmp 17)
 .skip
 (.seq (.ops [⟨some 19, none, .bin .eql (.tmp 4) (.const (.int .i64 9))⟩,
 ⟨some 17, none, .mov (.tmp 19)⟩])
 (.cond (.tmp 17)
 .skip
 (.ops [⟨some 20, none, .bin .eql (.tmp 4) (.const (.int .i64 10))⟩,
 ⟨some 17, none, .mov (.tmp 20)⟩])))))
 (.cond (.tmp 17)
 (.seq (.ops [⟨some 2, none, .mov (.const (.int .i64 15))⟩,
 ⟨some 3, none, .mov (.const (.int .i64 0))⟩])
 .ret)
 (.seq (.seq (.ops [⟨some 22, none, .bin .eql (.tmp 4) (.const (.int .i64 11))⟩,
 ⟨some 21, none, .mov (.tmp 22)⟩])
 (.cond (.tmp 21)
 .skip
 (.seq (.ops [⟨some 23, none, .bin .eql (.tmp 4) (.const (.int .i64 12))⟩,
 ⟨some 21, none, .mov (.tmp 23)⟩])
 (.cond (.tmp 21)
 .skip
 (.seq (.ops [⟨some 24, none, .bin .eql (.tmp 4) (.const (.int .i64 13))⟩,
 ⟨some 21, none, .mov (.tmp 24)⟩])
 (.cond (.tmp 21)
 .skip
 (.seq (.ops [⟨some 25, none, .bin .eql (.tmp 4) (.const (.int .i64 28))⟩,
 ⟨some 21, none, .mov (.tmp 25)⟩])
 (.cond (.tmp 21)
 .skip
 (.ops [⟨some 26, none, .bin .eql (.tmp 4) (.const (.int .i64 29))⟩,
 ⟨some 21, none, .mov (.tmp 26)⟩])))))))))
 (.cond (.tmp 21)
 (.seq (.ops [⟨some 2, none, .mov (.const (.int .i64 18))⟩,
 ⟨some 3, none, .mov (.const (.int .i64 0))⟩])
 .ret)
 (.seq (.seq (.ops [⟨some 28, none, .bin .eql (.tmp 4) (.const (.int .i64 14))⟩,
 ⟨some 27, none, .mov (.tmp 28)⟩])
 (.cond (.tmp 27)
 .skip
 (.seq (.ops [⟨some 29, none, .bin .eql (.tmp 4) (.const (.int .i64 15))⟩,
 ⟨some 27, none, .mov (.tmp 29)⟩])
 (.cond (.tmp 27)
 .skip
 (.seq (.ops [⟨some 30, none, .bin .eql (.tmp 4) (.const (.int .i64 16))⟩,
 ⟨some 27, none, .mov (.tmp 30)⟩])
 (.cond (.tmp 27)
 .skip
 (.seq (.ops [⟨some 31, none, .bin .eql (.tmp 4) (.const (.int .i64 17))⟩,
 ⟨some 27, none, .mov (.tmp 31)⟩])
 (.cond (.tmp 27)
 .skip
 (.seq (.ops [⟨some 32, none, .bin .eql (.tmp 4) (.const (.int .i64 18))⟩,
 ⟨some 27, none, .mov (.tmp 32)⟩])
 (.cond (.tmp 27)
 .skip
 (.seq (.ops [⟨some 33, none, .bin .eql (.tmp 4) (.const (.int .i64 30))⟩,
 ⟨some 27, none, .mov (.tmp 33)⟩])
 (.cond (.tmp 27)
 .skip
 (.ops [⟨some 34, none, .bin .eql (.tmp 4) (.const (.int .i64 31))⟩,
 ⟨some 27, none, .mov (.tmp 34)⟩])))))))))))))
 (.cond (.tmp 27)
 (.seq (.ops [⟨some 2, none, .mov (.const (.int .i64 19))⟩,
 ⟨some 3, none, .mov (.const (.int .i64 0))⟩])
 .ret)
 (.seq (.ops [⟨some 36, none, .bin .eql (.tmp 4) (.const (.int .i64 19))⟩,
 ⟨some 35, none, .mov (.tmp 36)⟩])
 (.cond (.tmp 35)
 (.seq (.ops [⟨some 2, none, .mov (.const (.int .i64 20))⟩,
 ⟨some 3, none, .mov (.const (.int .i64 0))⟩])
 .ret)
 (.seq (.ops [⟨some 38, none, .bin .eql (.tmp 4) (.const (.int .i64 20))⟩,
 ⟨some 37, none, .mov (.tmp 38)⟩])
 (.cond (.tmp 37)
 (.seq (.ops [⟨some 2, none, .mov (.const (.int .i64 21))⟩,
 ⟨some 3, none, .mov (.const (.int .i64 0))⟩])
 .ret)
 (.seq (.seq (.ops [⟨some 40, none, .bin .eql (.tmp 4) (.const (.int .i64 21))⟩,
 ⟨some 39, none, .mov (.tmp 40)⟩])
 (.cond (.tmp 39)
 .skip
 (.seq (.ops [⟨some 41, none, .bin .eql (.tmp 4) (.const (.int .i64 22))⟩,
 ⟨some 39, none, .mov (.tmp 41)⟩])
 (.cond (.tmp 39)
 .skip
 (.seq (.ops [⟨some 42, none, .bin .eql (.tmp 4) (.const (.int .i64 23))⟩,
 ⟨some 39, none, .mov (.tmp 42)⟩])
 (.cond (.tmp 39)
 .skip
 (.ops [⟨some 43, none, .bin .eql (.tmp 4) (.const (.int .i64 24))⟩,
 ⟨some 39, none, .mov (.tmp 43)⟩])))))))
 (.cond (.tmp 39)
 (.seq (.ops [⟨some 2, none, .mov (.const (.int .i64 22))⟩,
 ⟨some 3, none, .mov (.const (.int .i64 0))⟩])
 .ret)
 (.seq (.seq (.ops [⟨some 45, none, .bin .eql (.tmp 4) (.const (.int .i64 25))⟩,
 ⟨some 44, none, .mov (.tmp 45)⟩])
 (.cond (.tmp 44)
 .skip
 (.seq (.ops [⟨some 46, none, .bin .eql (.tmp 4) (.const (.int .i64 32))⟩,
 ⟨some 44, none, .mov (.tmp 46)⟩])
 (.cond (.tmp 44)
 .skip
 (.ops [⟨some 47, none, .bin .eql (.tmp 4) (.const (.int .i64 33))⟩,
 ⟨some 44, none, .mov (.tmp 47)⟩])))))
 (.cond (.tmp 44)
 (.seq (.ops [⟨some 2, none, .mov (.const (.int .i64 23))⟩,
 ⟨some 3, none, .mov (.const (.int .i64 0))⟩])
 .ret)
 .skip))))))))))))))))))))))
 (.seq (.ops [⟨some 2, none, .mov (.const (.int .i64 0))⟩,
 ⟨some 3, none, .mov (.const (.int .i64 4))⟩])
 .ret)))⟩
theorem ok7 : compF Tryz.prog Tryz.f7 = some c7 := by kernel_rfl
def c8 : CF := ⟨26, [.tmp 4],
 (.seq (.ops [⟨some 4, none, .mov (.const (.bool false))⟩])
 (.seq (.seq (.ops [⟨some 6, none, .mov (.tmp 0)⟩,
 ⟨some 7, none, .lnl (.tmp 6)⟩,
 ⟨some 8, none, .mov (.tmp 1)⟩,
 ⟨some 9, none, .lnl (.tmp 8)⟩,
 ⟨some 10, none, .bin .neq (.tmp 7) (.tmp 9)⟩])
 (.cond (.tmp 10)
 (.seq (.ops [⟨some 4, none, .mov (.const (.bool false))⟩])
 .ret)
 .skip))
 (.seq (.seq (.ops [⟨some 5, none, .mov (.const (.int .i64 0))⟩])
 (.block 0 (.loop (.seq (.seq (.ops [⟨some 11, none, .mov (.tmp 5)⟩,
 ⟨some 12, none, .mov (.tmp 0)⟩,
 ⟨some 13, none, .lnl (.tmp 12)⟩,
 ⟨some 14, none, .bin .lss (.tmp 11) (.tmp 13)⟩])
 (.cond (.tmp 14)
 .skip
 (.exit 0)))
 (.seq (.block 1 (.seq (.draw [⟨some 17, none, .mov (.tmp 0)⟩,
 ⟨some 18, none, .mov (.tmp 5)⟩,
 ⟨some 19, none, .iad 1 (.tmp 17) (.tmp 18)⟩,
 ⟨some 20, none, .ld1 (.tmp 19)⟩,
 ⟨some 21, none, .mov (.tmp 1)⟩,
 ⟨some 22, none, .mov (.tmp 5)⟩,
 ⟨some 23, none, .iad 1 (.tmp 21) (.tmp 22)⟩,
 ⟨some 24, none, .ld1 (.tmp 23)⟩,
 ⟨some 25, none, .bin .neq (.tmp 20) (.tmp 24)⟩] [(0, 1), (0, 4), (1, 4), (2, 4), (3, 4), (0, 5), (1, 5), (2, 5), (3, 5), (4, 5), (0, 6), (1, 6), (2, 6), (3, 6), (0, 7), (1, 7), (2, 7), (3, 7)])
 (.cond (.tmp 25)
 (.seq (.ops [⟨some 4, none, .mov (.const (.bool false))⟩])
 .ret)
 .skip)))
 (.ops [⟨some 15, none, .mov (.tmp 5)⟩,
 ⟨some 16, none, .bin .add (.tmp 15) (.const (.int .i64 1))⟩,
 ⟨some 5, none, .mov (.tmp 16)⟩]))))))
 (.seq (.ops [⟨some 4, none, .mov (.const (.bool true))⟩])
 .ret))))⟩
theorem ok8 : compF Tryz.prog Tryz.f8 = some c8 := by kernel_rfl
def c9 : CF := ⟨125, [.tmp 0],
 (.seq (.ops [⟨some 0, none, .mov (.const (.bool false))⟩])
 (.seq (.ops [⟨some 7, none, .agg [(.int .i64 0), (.int .i64 0), (.int .i64 0), (.string ⟨#[]⟩), (.int .i32 0), (.int .i32 0)] [(0, 1, (.const (.int .i64 4)))]⟩,
 ⟨some 8, none, .call (.func 10) [(.tmp 7), (.const (.slice none 0 0))]⟩,
 ⟨some 1, none, .mov (.tmp 8)⟩])
 (.seq (.ops [⟨some 9, none, .agg [(.int .i64 0), (.int .i64 0), (.int .i64 0), (.string ⟨#[]⟩), (.int .i32 0), (.int .i32 0)] [(0, 1, (.const (.int .i64 2)))]⟩,
 ⟨some 10, none, .call (.func 10) [(.tmp 9), (.const (.slice none 0 0))]⟩,
 ⟨some 2, none, .mov (.tmp 10)⟩])
 (.seq (.ops [⟨some 11, none, .agg [(.int .i64 0), (.int .i64 0), (.int .i64 0), (.string ⟨#[]⟩), (.int .i64 0), (.int .i64 0), (.int .i64 0)] [(0, 1, (.const (.int .i64 8)))]⟩,
 ⟨some 12, none, .call (.func 12) [(.const (.int .i64 0))]⟩,
 ⟨some 13, none, .call (.func 12) [(.const (.int .i64 1))]⟩,
 ⟨some 14, none, .agg [(.int .i64 0), (.int .i64 0), (.int .i64 0), (.string ⟨#[]⟩), (.int .i64 0), (.int .i64 0), (.int .i64 0)] [(0, 1, (.const (.int .i64 19)))]⟩,
 ⟨some 15, none, .call (.func 13) [(.const (.int .i64 0))]⟩,
 ⟨some 16, none, .call (.func 13) [(.const (.int .i64 1))]⟩,
 ⟨some 17, none, .lits [(.slice none 0 0), (.slice none 0 0)] 2 [(0, 1, (.tmp 15)), (1, 1, (.tmp 16))]⟩,
 ⟨some 18, none, .call (.func 11) [(.tmp 14), (.tmp 17)]⟩,
 ⟨some 19, none, .lits [(.slice none 0 0), (.slice none 0 0), (.slice none 0 0)] 3 [(0, 1, (.tmp 12)), (1, 1, (.tmp 13)), (2, 1, (.tmp 18))]⟩,
 ⟨some 20, none, .call (.func 11) [(.tmp 11), (.tmp 19)]⟩,
 ⟨some 3, none, .mov (.tmp 20)⟩])
 (.seq (.ops [⟨some 21, none, .agg [(.int .i64 0), (.int .i64 0), (.int .i64 0), (.string ⟨#[]⟩), (.int .i32 0), (.int .i32 0)] [(0, 1, (.const (.int .i64 10))), (4, 1, (.const (.int .i32 18)))]⟩,
 ⟨some 22, none, .call (.func 16) [(.const (.int .i64 0))]⟩,
 ⟨some 23, none, .call (.func 16) [(.const (.int .i64 0))]⟩,
 ⟨some 24, none, .call (.func 16) [(.const (.int .i64 1))]⟩,
 ⟨some 25, none, .call (.func 14) [(.const (.int .i32 15)), (.const (.int .i64 0)), (.tmp 24)]⟩,
 ⟨some 26, none, .lits [(.slice none 0 0)] 1 [(0, 1, (.tmp 25))]⟩,
 ⟨some 27, none, .call (.func 15) [(.const (.int .i32 14)), (.tmp 26)]⟩,
 ⟨some 28, none, .lits [(.slice none 0 0), (.slice none 0 0), (.slice none 0 0)] 3 [(0, 1, (.tmp 22)), (1, 1, (.tmp 23)), (2, 1, (.tmp 27))]⟩,
 ⟨some 29, none, .call (.func 10) [(.tmp 21), (.tmp 28)]⟩,
 ⟨some 30, none, .call (.func 14) [(.const (.int .i32 17)), (.const (.int .i64 1)), (.tmp 29)]⟩,
 ⟨some 31, none, .call (.func 16) [(.const (.int .i64 1))]⟩,
 ⟨some 32, none, .lits [(.slice none 0 0), (.slice none 0 0)] 2 [(0, 1, (.tmp 30)), (1, 1, (.tmp 31))]⟩,
 ⟨some 33, none, .call (.func 15) [(.const (.int .i32 16)), (.tmp 32)]⟩,
 ⟨some 34, none, .call (.func 14) [(.const (.int .i32 0)), (.const (.int .i64 2)), (.tmp 33)]⟩,
 ⟨some 4, none, .mov (.tmp 34)⟩])
 (.seq (.ops [⟨some 35, none, .agg [(.int .i64 0), (.int .i64 0), (.int .i64 0), (.string ⟨#[]⟩), (.int .i64 0), (.int .i64 0), (.int .i64 0)] [(0, 1, (.const (.int .i64 3)))]⟩,
 ⟨some 36, none, .agg [(.int .i64 0), (.int .i64 0), (.int .i64 0), (.string ⟨#[]⟩), (.int .i64 0), (.int .i64 0), (.int .i64 0)] [(0, 1, (.const (.int .i64 5)))]⟩,
 ⟨some 37, none, .call (.func 17) [(.const (.int .i64 1))]⟩,
 ⟨some 38, none, .agg [(.int .i64 0), (.int .i64 0), (.int .i64 0), (.string ⟨#[]⟩), (.int .i64 0), (.int .i64 0), (.int .i64 0)] [(0, 1, (.const (.int .i64 4))), (3, 1, (.const (.string ⟨#[97]⟩)))]⟩,
 ⟨some 39, none, .call (.func 11) [(.tmp 38), (.const (.slice none 0 0))]⟩,
 ⟨some 40, none, .lits [(.slice none 0 0), (.slice none 0 0)] 2 [(0, 1, (.tmp 37)), (1, 1, (.tmp 39))]⟩,
 ⟨some 41, none, .call (.func 11) [(.tmp 36), (.tmp 40)]⟩,
 ⟨some 42, none, .lits [(.slice none 0 0)] 1 [(0, 1, (.tmp 41))]⟩,
 ⟨some 43, none, .call (.func 11) [(.tmp 35), (.tmp 42)]⟩,
 ⟨some 5, none, .mov (.tmp 43)⟩])
 (.seq (.ops [⟨some 44, none, .agg [(.int .i64 0), (.int .i64 0), (.int .i64 0), (.string ⟨#[]⟩), (.int .i32 0), (.int .i32 0)] [(0, 1, (.const (.int .i64 5)))]⟩,
 ⟨some 45, none, .call (.func 18) [(.const (.int .i64 1))]⟩,
 ⟨some 46, none, .agg [(.int .i64 0), (.int .i64 0), (.int .i64 0), (.string ⟨#[]⟩), (.int .i32 0), (.int .i32 0)] [(0, 1, (.const (.int .i64 5)))]⟩,
 ⟨some 47, none, .agg [(.int .i64 0), (.int .i64 0), (.int .i64 0), (.string ⟨#[]⟩), (.int .i32 0), (.int .i32 0)] [(0, 1, (.const (.int .i64 3))), (3, 1, (.const (.string ⟨#[97]⟩)))]⟩,
 ⟨some 48, none, .call (.func 10) [(.tmp 47), (.const (.slice none 0 0))]⟩,
 ⟨some 49, none, .mov (.tmp 1)⟩,
 ⟨some 50, none, .lits [(.slice none 0 0), (.slice none 0 0)] 2 [(0, 1, (.tmp 48)), (1, 1, (.tmp 49))]⟩,
 ⟨some 51, none, .call (.func 10) [(.tmp 46), (.tmp 50)]⟩,
 ⟨some 52, none, .lits [(.slice none 0 0), (.slice none 0 0)] 2 [(0, 1, (.tmp 45)), (1, 1, (.tmp 51))]⟩,
 ⟨some 53, none, .call (.func 10) [(.tmp 44), (.tmp 52)]⟩,
 ⟨some 6, none, .mov (.tmp 53)⟩])
 (.seq (.ops [⟨some 54, none, .agg [(.int .i64 0), (.int .i64 0), (.int .i64 0), (.string ⟨#[]⟩), (.int .i64 0), (.int .i64 0), (.int .i64 0)] [(0, 1, (.const (.int .i64 12)))]⟩,
 ⟨some 55, none, .call (.func 12) [(.const (.int .i64 0))]⟩,
 ⟨some 56, none, .call (.func 17) [(.const (.int .i64 1))]⟩,
 ⟨some 57, none, .call (.func 13) [(.const (.int .i64 0))]⟩,
 ⟨some 58, none, .lits [(.slice none 0 0), (.slice none 0 0), (.slice none 0 0)] 3 [(0, 1, (.tmp 55)), (1, 1, (.tmp 56)), (2, 1, (.tmp 57))]⟩,
 ⟨some 59, none, .call (.func 11) [(.tmp 54), (.tmp 58)]⟩,
 ⟨some 60, none, .call (.func 16) [(.const (.int .i64 0))]⟩,
 ⟨some 61, none, .call (.func 14) [(.const (.int .i32 2)), (.const (.int .i64 1)), (.tmp 60)]⟩,
 ⟨some 62, none, .call (.func 18) [(.const (.int .i64 1))]⟩,
 ⟨some 63, none, .lits [(.slice none 0 0), (.slice none 0 0)] 2 [(0, 1, (.tmp 61)), (1, 1, (.tmp 62))]⟩,
 ⟨some 64, none, .call (.func 15) [(.const (.int .i32 1)), (.tmp 63)]⟩,
 ⟨some 65, none, .call (.func 19) [(.tmp 59), (.tmp 64)]⟩,
 ⟨some 66, none, .mov (.tmp 65)⟩,
 ⟨some 67, (some (66, true)), .mov (.tmp 3)⟩,
 ⟨some 68, (some (66, true)), .mov (.tmp 4)⟩,
 ⟨some 69, (some (66, true)), .call (.func 19) [(.tmp 67), (.tmp 68)]⟩,
 ⟨some 70, none, .pick (.tmp 66) (.tmp 69) (.const (.bool false))⟩,
 ⟨some 71, none, .mov (.tmp 70)⟩,
 ⟨some 72, (some (71, true)), .agg [(.int .i64 0), (.int .i64 0), (.int .i64 0), (.string ⟨#[]⟩), (.int .i64 0), (.int .i64 0), (.int .i64 0)] [(0, 1, (.const (.int .i64 18)))]⟩,
 ⟨some 73, (some (71, true)), .call (.func 17) [(.const (.int .i64 1))]⟩,
 ⟨some 74, (some (71, true)), .call (.func 17) [(.const (.int .i64 2))]⟩,
 ⟨some 75, (some (71, true)), .lits [(.slice none 0 0), (.slice none 0 0)] 2 [(0, 1, (.tmp 73)), (1, 1, (.tmp 74))]⟩,
 ⟨some 76, (some (71, true)), .call (.func 11) [(.tmp 72), (.tmp 75)]⟩,
 ⟨some 77, (some (71, true)), .agg [(.int .i64 0), (.int .i64 0), (.int .i64 0), (.string ⟨#[]⟩), (.int .i32 0), (.int .i32 0)] [(0, 1, (.const (.int .i64 10))), (4, 1, (.const (.int .i32 13)))]⟩,
 ⟨some 78, (some (71, true)), .call (.func 18) [(.const (.int .i64 1))]⟩,
 ⟨some 79, (some (71, true)), .call (.func 18) [(.const (.int .i64 2))]⟩,
 ⟨some 80, (some (71, true)), .call (.func 14) [(.const (.int .i32 12)), (.const (.int .i64 0)), (.tmp 79)]⟩,
 ⟨some 81, (some (71, true)), .lits [(.slice none 0 0)] 1 [(0, 1, (.tmp 80))]⟩,
 ⟨some 82, (some (71, true)), .call (.func 15) [(.const (.int .i32 11)), (.tmp 81)]⟩,
 ⟨some 83, (some (71, true)), .mov (.tmp 2)⟩,
 ⟨some 84, (some (71, true)), .lits [(.slice none 0 0), (.slice none 0 0), (.slice none 0 0)] 3 [(0, 1, (.tmp 78)), (1, 1, (.tmp 82)), (2, 1, (.tmp 83))]⟩,
 ⟨some 85, (some (71, true)), .call (.func 10) [(.tmp 77), (.tmp 84)]⟩,
 ⟨some 86, (some (71, true)), .call (.func 19) [(.tmp 76), (.tmp 85)]⟩,
 ⟨some 87, none, .pick (.tmp 71) (.tmp 86) (.const (.bool false))⟩,
 ⟨some 88, none, .mov (.tmp 87)⟩,
 ⟨some 89, (some (88, true)), .agg [(.int .i64 0), (.int .i64 0), (.int .i64 0), (.string ⟨#[]⟩), (.int .i64 0), (.int .i64 0), (.int .i64 0)] [(0, 1, (.const (.int .i64 22)))]⟩,
 ⟨some 90, (some (88, true)), .call (.func 17) [(.const (.int .i64 1))]⟩,
 ⟨some 91, (some (88, true)), .call (.func 17) [(.const (.int .i64 2))]⟩,
 ⟨some 92, (some (88, true)), .lits [(.slice none 0 0), (.slice none 0 0)] 2 [(0, 1, (.tmp 90)), (1, 1, (.tmp 91))]⟩,
 ⟨some 93, (some (88, true)), .call (.func 11) [(.tmp 89), (.tmp 92)]⟩,
 ⟨some 94, (some (88, true)), .call (.func 18) [(.const (.int .i64 2))]⟩,
 ⟨some 95, (some (88, true)), .call (.func 14) [(.const (.int .i32 22)), (.const (.int .i64 0)), (.tmp 94)]⟩,
 ⟨some 96, (some (88, true)), .lits [(.slice none 0 0)] 1 [(0, 1, (.tmp 95))]⟩,
 ⟨some 97, (some (88, true)), .call (.func 15) [(.const (.int .i32 21)), (.tmp 96)]⟩,
 ⟨some 98, (some (88, true)), .call (.func 14) [(.const (.int .i32 24)), (.const (.int .i64 1)), (.tmp 97)]⟩,
 ⟨some 99, (some (88, true)), .call (.func 18) [(.const (.int .i64 1))]⟩,
 ⟨some 100, (some (88, true)), .lits [(.slice none 0 0), (.slice none 0 0)] 2 [(0, 1, (.tmp 98)), (1, 1, (.tmp 99))]⟩,
 ⟨some 101, (some (88, true)), .call (.func 15) [(.const (.int .i32 23)), (.tmp 100)]⟩,
 ⟨some 102, (some (88, true)), .call (.func 19) [(.tmp 93), (.tmp 101)]⟩,
 ⟨some 103, none, .pick (.tmp 88) (.tmp 102) (.const (.bool false))⟩,
 ⟨some 104, none, .mov (.tmp 103)⟩,
 ⟨some 105, (some (104, true)), .agg [(.int .i64 0), (.int .i64 0), (.int .i64 0), (.string ⟨#[]⟩), (.int .i64 0), (.int .i64 0), (.int .i64 0)] [(0, 1, (.const (.int .i64 23)))]⟩,
 ⟨some 106, (some (104, true)), .call (.func 17) [(.const (.int .i64 1))]⟩,
 ⟨some 107, (some (104, true)), .lits [(.slice none 0 0)] 1 [(0, 1, (.tmp 106))]⟩,
 ⟨some 108, (some (104, true)), .call (.func 11) [(.tmp 105), (.tmp 107)]⟩,
 ⟨some 109, (some (104, true)), .agg [(.int .i64 0), (.int .i64 0), (.int .i64 0), (.string ⟨#[]⟩), (.int .i32 0), (.int .i32 0)] [(0, 1, (.const (.int .i64 6))), (3, 1, (.const (.string ⟨#[99, 111, 110, 115]⟩)))]⟩,
 ⟨some 110, (some (104, true)), .call (.func 10) [(.tmp 109), (.const (.slice none 0 0))]⟩,
 ⟨some 111, (some (104, true)), .call (.func 18) [(.const (.int .i64 1))]⟩,
 ⟨some 112, (some (104, true)), .mov (.tmp 1)⟩,
 ⟨some 113, (some (104, true)), .call (.func 14) [(.const (.int .i32 33)), (.const (.int .i64 0)), (.tmp 112)]⟩,
 ⟨some 114, (some (104, true)), .lits [(.slice none 0 0)] 1 [(0, 1, (.tmp 113))]⟩,
 ⟨some 115, (some (104, true)), .call (.func 15) [(.const (.int .i32 32)), (.tmp 114)]⟩,
 ⟨some 116, (some (104, true)), .lits [(.slice none 0 0), (.slice none 0 0), (.slice none 0 0)] 3 [(0, 1, (.tmp 110)), (1, 1, (.tmp 111)), (2, 1, (.tmp 115))]⟩,
 ⟨some 117, (some (104, true)), .call (.func 15) [(.const (.int .i32 25)), (.tmp 116)]⟩,
 ⟨some 118, (some (104, true)), .call (.func 19) [(.tmp 108), (.tmp 117)]⟩,
 ⟨some 119, none, .pick (.tmp 104) (.tmp 118) (.const (.bool false))⟩,
 ⟨some 120, none, .mov (.tmp 119)⟩,
 ⟨some 121, (some (120, true)), .mov (.tmp 5)⟩,
 ⟨some 122, (some (120, true)), .mov (.tmp 6)⟩,
 ⟨some 123, (some (120, true)), .call (.func 19) [(.tmp 121), (.tmp 122)]⟩,
 ⟨some 124, none, .pick (.tmp 120) (.tmp 123) (.const (.bool false))⟩,
 ⟨some 0, none, .mov (.tmp 124)⟩])
 .ret))))))))⟩
theorem ok9 : compF Tryz.prog Tryz.f9 = some c9 := by kernel_rfl
def c10 : CF := ⟨25, [.tmp 4],
 (.seq (.ops [⟨some 2, none, .box (.tmp 0)⟩,
 ⟨some 4, none, .mov (.const (.slice none 0 0))⟩])
 (.seq (.ops [⟨some 7, none, .mov (.tmp 1)⟩,
 ⟨some 8, none, .lnl (.tmp 7)⟩,
 ⟨some 9, none, .fad (.tmp 2) 1⟩,
 ⟨none, none, .st 1 (.tmp 9) (.tmp 8)⟩])
 (.seq (.ops [⟨some 10, none, .ld 6 (.tmp 2)⟩,
 ⟨some 11, none, .lits [(.int .i64 0), (.int .i64 0), (.int .i64 0), (.string ⟨#[]⟩), (.int .i32 0), (.int .i32 0)] 1 [(0, 6, (.tmp 10))]⟩,
 ⟨some 5, none, .mov (.tmp 11)⟩])
 (.seq (.seq (.ops [⟨some 6, none, .mov (.const (.int .i64 0))⟩])
 (.block 0 (.loop (.seq (.seq (.ops [⟨some 12, none, .mov (.tmp 6)⟩,
 ⟨some 13, none, .mov (.tmp 1)⟩,
 ⟨some 14, none, .lnl (.tmp 13)⟩,
 ⟨some 15, none, .bin .lss (.tmp 12) (.tmp 14)⟩])
 (.cond (.tmp 15)
 .skip
 (.exit 0)))
 (.seq (.block 1 (.ops [⟨some 18, none, .mov (.tmp 5)⟩,
 ⟨some 19, none, .mov (.tmp 1)⟩,
 ⟨some 20, none, .mov (.tmp 6)⟩,
 ⟨some 21, none, .iad 1 (.tmp 19) (.tmp 20)⟩,
 ⟨some 22, none, .ld1 (.tmp 21)⟩,
 ⟨some 23, none, .app 6 48 none (.tmp 18) (.tmp 22)⟩,
 ⟨some 5, none, .mov (.tmp 23)⟩]))
 (.ops [⟨some 16, none, .mov (.tmp 6)⟩,
 ⟨some 17, none, .bin .add (.tmp 16) (.const (.int .i64 1))⟩,
 ⟨some 6, none, .mov (.tmp 17)⟩]))))))
 (.seq (.ops [⟨some 24, none, .mov (.tmp 5)⟩,
 ⟨some 4, none, .mov (.tmp 24)⟩])
 .ret)))))⟩
theorem ok10 : compF Tryz.prog Tryz.f10 = some c10 := by kernel_rfl
def c11 : CF := ⟨25, [.tmp 4],
 (.seq (.ops [⟨some 2, none, .box (.tmp 0)⟩,
 ⟨some 4, none, .mov (.const (.slice none 0 0))⟩])
 (.seq (.ops [⟨some 7, none, .mov (.tmp 1)⟩,
 ⟨some 8, none, .lnl (.tmp 7)⟩,
 ⟨some 9, none, .fad (.tmp 2) 1⟩,
 ⟨none, none, .st 1 (.tmp 9) (.tmp 8)⟩])
 (.seq (.ops [⟨some 10, none, .ld 7 (.tmp 2)⟩,
 ⟨some 11, none, .lits [(.int .i64 0), (.int .i64 0), (.int .i64 0), (.string ⟨#[]⟩), (.int .i64 0), (.int .i64 0), (.int .i64 0)] 1 [(0, 7, (.tmp 10))]⟩,
 ⟨some 5, none, .mov (.tmp 11)⟩])
 (.seq (.seq (.ops [⟨some 6, none, .mov (.const (.int .i64 0))⟩])
 (.block 0 (.loop (.seq (.seq (.ops [⟨some 12, none, .mov (.tmp 6)⟩,
 ⟨some 13, none, .mov (.tmp 1)⟩,
 ⟨some 14, none, .lnl (.tmp 13)⟩,
 ⟨some 15, none, .bin .lss (.tmp 12) (.tmp 14)⟩])
 (.cond (.tmp 15)
 .skip
 (.exit 0)))
 (.seq (.block 1 (.ops [⟨some 18, none, .mov (.tmp 5)⟩,
 ⟨some 19, none, .mov (.tmp 1)⟩,
 ⟨some 20, none, .mov (.tmp 6)⟩,
 ⟨some 21, none, .iad 1 (.tmp 19) (.tmp 20)⟩,
 ⟨some 22, none, .ld1 (.tmp 21)⟩,
 ⟨some 23, none, .app 7 64 none (.tmp 18) (.tmp 22)⟩,
 ⟨some 5, none, .mov (.tmp 23)⟩]))
 (.ops [⟨some 16, none, .mov (.tmp 6)⟩,
 ⟨some 17, none, .bin .add (.tmp 16) (.const (.int .i64 1))⟩,
 ⟨some 6, none, .mov (.tmp 17)⟩]))))))
 (.seq (.ops [⟨some 24, none, .mov (.tmp 5)⟩,
 ⟨some 4, none, .mov (.tmp 24)⟩])
 .ret)))))⟩
theorem ok11 : compF Tryz.prog Tryz.f11 = some c11 := by kernel_rfl
def c12 : CF := ⟨6, [.tmp 2],
 (.seq (.ops [⟨some 2, none, .mov (.const (.slice none 0 0))⟩])
 (.seq (.ops [⟨some 3, none, .mov (.tmp 0)⟩,
 ⟨some 4, none, .agg [(.int .i64 0), (.int .i64 0), (.int .i64 0), (.string ⟨#[]⟩), (.int .i64 0), (.int .i64 0), (.int .i64 0)] [(0, 1, (.const (.int .i64 9))), (2, 1, (.tmp 3)), (3, 1, (.const (.string ⟨#[120]⟩)))]⟩,
 ⟨some 5, none, .call (.func 11) [(.tmp 4), (.const (.slice none 0 0))]⟩,
 ⟨some 2, none, .mov (.tmp 5)⟩])
 .ret))⟩
theorem ok12 : compF Tryz.prog Tryz.f12 = some c12 := by kernel_rfl
def c13 : CF := ⟨6, [.tmp 2],
 (.seq (.ops [⟨some 2, none, .mov (.const (.slice none 0 0))⟩])
 (.seq (.ops [⟨some 3, none, .mov (.tmp 0)⟩,
 ⟨some 4, none, .agg [(.int .i64 0), (.int .i64 0), (.int .i64 0), (.string ⟨#[]⟩), (.int .i64 0), (.int .i64 0), (.int .i64 0)] [(0, 1, (.const (.int .i64 6))), (2, 1, (.tmp 3)), (3, 1, (.const (.string ⟨#[120]⟩)))]⟩,
 ⟨some 5, none, .call (.func 11) [(.tmp 4), (.const (.slice none 0 0))]⟩,
 ⟨some 2, none, .mov (.tmp 5)⟩])
 .ret))⟩
theorem ok13 : compF Tryz.prog Tryz.f13 = some c13 := by kernel_rfl
def c14 : CF := ⟨13, [.tmp 6],
 (.seq (.ops [⟨some 6, none, .mov (.const (.slice none 0 0))⟩])
 (.seq (.ops [⟨some 7, none, .mov (.tmp 1)⟩,
 ⟨some 8, none, .mov (.tmp 0)⟩,
 ⟨some 9, none, .agg [(.int .i64 0), (.int .i64 0), (.int .i64 0), (.string ⟨#[]⟩), (.int .i32 0), (.int .i32 0)] [(0, 1, (.const (.int .i64 8))), (2, 1, (.tmp 7)), (4, 1, (.tmp 8))]⟩,
 ⟨some 10, none, .mov (.tmp 2)⟩,
 ⟨some 11, none, .lits [(.slice none 0 0)] 1 [(0, 1, (.tmp 10))]⟩,
 ⟨some 12, none, .call (.func 10) [(.tmp 9), (.tmp 11)]⟩,
 ⟨some 6, none, .mov (.tmp 12)⟩])
 .ret))⟩
theorem ok14 : compF Tryz.prog Tryz.f14 = some c14 := by kernel_rfl
def c15 : CF := ⟨9, [.tmp 4],
 (.seq (.ops [⟨some 4, none, .mov (.const (.slice none 0 0))⟩])
 (.seq (.ops [⟨some 5, none, .mov (.tmp 0)⟩,
 ⟨some 6, none, .agg [(.int .i64 0), (.int .i64 0), (.int .i64 0), (.string ⟨#[]⟩), (.int .i32 0), (.int .i32 0)] [(0, 1, (.const (.int .i64 9))), (4, 1, (.tmp 5))]⟩,
 ⟨some 7, none, .mov (.tmp 1)⟩,
 ⟨some 8, none, .call (.func 10) [(.tmp 6), (.tmp 7)]⟩,
 ⟨some 4, none, .mov (.tmp 8)⟩])
 .ret))⟩
theorem ok15 : compF Tryz.prog Tryz.f15 = some c15 := by kernel_rfl
def c16 : CF := ⟨6, [.tmp 2],
 (.seq (.ops [⟨some 2, none, .mov (.const (.slice none 0 0))⟩])
 (.seq (.ops [⟨some 3, none, .mov (.tmp 0)⟩,
 ⟨some 4, none, .agg [(.int .i64 0), (.int .i64 0), (.int .i64 0), (.string ⟨#[]⟩), (.int .i32 0), (.int .i32 0)] [(0, 1, (.const (.int .i64 7))), (2, 1, (.tmp 3))]⟩,
 ⟨some 5, none, .call (.func 10) [(.tmp 4), (.const (.slice none 0 0))]⟩,
 ⟨some 2, none, .mov (.tmp 5)⟩])
 .ret))⟩
theorem ok16 : compF Tryz.prog Tryz.f16 = some c16 := by kernel_rfl
def c17 : CF := ⟨6, [.tmp 2],
 (.seq (.ops [⟨some 2, none, .mov (.const (.slice none 0 0))⟩])
 (.seq (.ops [⟨some 3, none, .mov (.tmp 0)⟩,
 ⟨some 4, none, .agg [(.int .i64 0), (.int .i64 0), (.int .i64 0), (.string ⟨#[]⟩), (.int .i64 0), (.int .i64 0), (.int .i64 0)] [(0, 1, (.const (.int .i64 1))), (2, 1, (.tmp 3))]⟩,
 ⟨some 5, none, .call (.func 11) [(.tmp 4), (.const (.slice none 0 0))]⟩,
 ⟨some 2, none, .mov (.tmp 5)⟩])
 .ret))⟩
theorem ok17 : compF Tryz.prog Tryz.f17 = some c17 := by kernel_rfl
def c18 : CF := ⟨6, [.tmp 2],
 (.seq (.ops [⟨some 2, none, .mov (.const (.slice none 0 0))⟩])
 (.seq (.ops [⟨some 3, none, .mov (.tmp 0)⟩,
 ⟨some 4, none, .agg [(.int .i64 0), (.int .i64 0), (.int .i64 0), (.string ⟨#[]⟩), (.int .i32 0), (.int .i32 0)] [(0, 1, (.const (.int .i64 1))), (2, 1, (.tmp 3))]⟩,
 ⟨some 5, none, .call (.func 10) [(.tmp 4), (.const (.slice none 0 0))]⟩,
 ⟨some 2, none, .mov (.tmp 5)⟩])
 .ret))⟩
theorem ok18 : compF Tryz.prog Tryz.f18 = some c18 := by kernel_rfl
def c19 : CF := ⟨21, [.tmp 4],
 (.seq (.ops [⟨some 4, none, .mov (.const (.bool false))⟩])
 (.seq (.ops [⟨some 9, none, .mov (.tmp 0)⟩,
 ⟨some 10, none, .call (.func 20) [(.tmp 9)]⟩,
 ⟨some 8, none, .mov (.tmp 10)⟩,
 ⟨some 11, none, .ext (.tmp 8) 0⟩,
 ⟨some 12, none, .ext (.tmp 8) 1⟩,
 ⟨some 13, none, .ext (.tmp 8) 2⟩,
 ⟨some 5, none, .mov (.tmp 11)⟩,
 ⟨some 6, none, .mov (.tmp 12)⟩,
 ⟨some 7, none, .mov (.tmp 13)⟩])
 (.seq (.ops [⟨some 14, none, .mov (.tmp 7)⟩,
 ⟨some 15, none, .bin .eql (.tmp 14) (.const (.int .i64 0))⟩,
 ⟨some 16, none, .mov (.tmp 15)⟩,
 ⟨some 17, (some (16, true)), .mov (.tmp 5)⟩,
 ⟨some 18, (some (16, true)), .mov (.tmp 1)⟩,
 ⟨some 19, (some (16, true)), .call (.func 21) [(.tmp 17), (.tmp 18)]⟩,
 ⟨some 20, none, .pick (.tmp 16) (.tmp 19) (.const (.bool false))⟩,
 ⟨some 4, none, .mov (.tmp 20)⟩])
 .ret)))⟩
theorem ok19 : compF Tryz.prog Tryz.f19 = some c19 := by kernel_rfl
def c20 : CF := ⟨39, [.tmp 2, .tmp 3, .tmp 4],
 (.seq (.ops [⟨some 2, none, .mov (.const (.slice none 0 0))⟩,
 ⟨some 3, none, .mov (.const (.int .i64 0))⟩,
 ⟨some 4, none, .mov (.const (.int .i64 0))⟩])
 (.seq (.seq (.ops [⟨some 11, none, .mov (.tmp 0)⟩,
 ⟨some 12, none, .call (.func 22) [(.tmp 11)]⟩,
 ⟨some 10, none, .mov (.tmp 12)⟩,
 ⟨some 13, none, .ext (.tmp 10) 0⟩,
 ⟨some 14, none, .ext (.tmp 10) 1⟩,
 ⟨some 5, none, .mov (.tmp 13)⟩,
 ⟨some 6, none, .mov (.tmp 14)⟩])
 (.seq (.ops [⟨some 15, none, .mov (.tmp 6)⟩,
 ⟨some 16, none, .bin .neq (.tmp 15) (.const (.int .i64 0))⟩])
 (.cond (.tmp 16)
 (.seq (.ops [⟨some 17, none, .mov (.tmp 5)⟩,
 ⟨some 18, none, .mov (.tmp 6)⟩,
 ⟨some 2, none, .mov (.const (.slice none 0 0))⟩,
 ⟨some 3, none, .mov (.tmp 17)⟩,
 ⟨some 4, none, .mov (.tmp 18)⟩])
 .ret)
 .skip)))
 (.seq (.ops [⟨some 19, none, .mov (.tmp 0)⟩,
 ⟨some 20, none, .call (.func 23) [(.tmp 19)]⟩,
 ⟨some 21, none, .agg [(.pointer none), (.bool false), .nilFunc, .nilFunc, .nilFunc, .nilFunc, .nilFunc, .nilFunc, .nilFunc, .nilFunc, .nilFunc, .nilFunc, .nilFunc, .nilFunc, .nilFunc, .nilFunc, .nilFunc, .nilFunc, .nilFunc, .nilFunc, .nilFunc, .nilFunc, .nilFunc, .nilFunc, .nilFunc, .nilFunc, .nilFunc] [(0, 1, (.tmp 20))]⟩,
 ⟨some 22, none, .box (.tmp 21)⟩,
 ⟨some 7, none, .mov (.tmp 22)⟩])
 (.seq (.ops [⟨some 23, none, .mov (.tmp 7)⟩,
 ⟨some 24, none, .call (.func 24) [(.tmp 23)]⟩])
 (.seq (.ops [⟨some 25, none, .mov (.tmp 7)⟩,
 ⟨some 26, none, .call (.func 25) [(.tmp 25), (.const (.int .i64 0)), (.const (.slice none 0 0))]⟩,
 ⟨some 2, none, .mov (.tmp 26)⟩])
 (.seq (.seq (.ops [⟨some 27, none, .mov (.tmp 7)⟩,
 ⟨some 28, none, .nilck (.tmp 27)⟩,
 ⟨some 29, none, .fad (.tmp 28) 1⟩,
 ⟨some 30, none, .ld1 (.tmp 29)⟩])
 (.cond (.tmp 30)
 (.seq (.ops [⟨some 2, none, .mov (.const (.slice none 0 0))⟩,
 ⟨some 3, none, .mov (.const (.int .i64 0))⟩,
 ⟨some 4, none, .mov (.const (.int .i64 3))⟩])
 .ret)
 .skip))
 (.seq (.seq (.ops [⟨some 32, none, .mov (.tmp 2)⟩,
 ⟨some 33, none, .call (.func 26) [(.tmp 32), (.const (.bool false))]⟩,
 ⟨some 31, none, .mov (.tmp 33)⟩,
 ⟨some 34, none, .ext (.tmp 31) 0⟩,
 ⟨some 35, none, .ext (.tmp 31) 1⟩,
 ⟨some 8, none, .mov (.tmp 34)⟩,
 ⟨some 9, none, .mov (.tmp 35)⟩])
 (.seq (.ops [⟨some 36, none, .mov (.tmp 9)⟩,
 ⟨some 37, none, .bin .neq (.tmp 36) (.const (.int .i64 0))⟩])
 (.cond (.tmp 37)
 (.seq (.ops [⟨some 2, none, .mov (.const (.slice none 0 0))⟩,
 ⟨some 3, none, .mov (.const (.int .i64 0))⟩,
 ⟨some 4, none, .mov (.const (.int .i64 3))⟩])
 .ret)
 .skip)))
 (.seq (.ops [⟨some 38, none, .mov (.tmp 2)⟩,
 ⟨some 2, none, .mov (.tmp 38)⟩,
 ⟨some 3, none, .mov (.const (.int .i64 0))⟩,
 ⟨some 4, none, .mov (.const (.int .i64 0))⟩])
 .ret))))))))⟩
theorem ok20 : compF Tryz.prog Tryz.f20 = some c20 := by kernel_rfl
def c21 : CF := ⟨32, [.tmp 4],
 (.seq (.ops [⟨some 4, none, .mov (.const (.bool false))⟩])
 (.seq (.seq (.ops [⟨some 8, none, .mov (.tmp 0)⟩,
 ⟨some 9, none, .lnl (.tmp 8)⟩,
 ⟨some 10, none, .mov (.tmp 1)⟩,
 ⟨some 11, none, .lnl (.tmp 10)⟩,
 ⟨some 12, none, .bin .neq (.tmp 9) (.tmp 11)⟩])
 (.cond (.tmp 12)
 (.seq (.ops [⟨some 4, none, .mov (.const (.bool false))⟩])
 .ret)
 .skip))
 (.seq (.seq (.ops [⟨some 5, none, .mov (.const (.int .i64 0))⟩])
 (.block 0 (.loop (.seq (.seq (.ops [⟨some 13, none, .mov (.tmp 5)⟩,
 ⟨some 14, none, .mov (.tmp 0)⟩,
 ⟨some 15, none, .lnl (.tmp 14)⟩,
 ⟨some 16, none, .bin .lss (.tmp 13) (.tmp 15)⟩])
 (.cond (.tmp 16)
 .skip
 (.exit 0)))
 (.seq (.block 1 (.seq (.draw [⟨some 19, none, .mov (.tmp 0)⟩,
 ⟨some 20, none, .mov (.tmp 5)⟩,
 ⟨some 21, none, .iad 6 (.tmp 19) (.tmp 20)⟩,
 ⟨some 22, none, .ld 6 (.tmp 21)⟩,
 ⟨some 23, none, .mov (.tmp 1)⟩,
 ⟨some 24, none, .mov (.tmp 5)⟩,
 ⟨some 25, none, .iad 6 (.tmp 23) (.tmp 24)⟩,
 ⟨some 26, none, .ld 6 (.tmp 25)⟩,
 ⟨some 6, none, .newz [(.int .i64 0), (.int .i64 0), (.int .i64 0), (.string ⟨#[]⟩), (.int .i32 0), (.int .i32 0)]⟩,
 ⟨some 7, none, .newz [(.int .i64 0), (.int .i64 0), (.int .i64 0), (.string ⟨#[]⟩), (.int .i32 0), (.int .i32 0)]⟩,
 ⟨none, none, .st 6 (.tmp 6) (.tmp 22)⟩,
 ⟨none, none, .st 6 (.tmp 7) (.tmp 26)⟩] [(0, 1), (0, 4), (1, 4), (2, 4), (3, 4), (0, 5), (1, 5), (2, 5), (3, 5), (4, 5), (0, 6), (1, 6), (2, 6), (3, 6), (0, 7), (1, 7), (2, 7), (3, 7), (0, 8), (1, 8), (2, 8), (3, 8), (4, 8), (5, 8), (6, 8), (7, 8), (0, 9), (1, 9), (2, 9), (3, 9), (4, 9), (5, 9), (6, 9), (7, 9), (8, 9), (4, 10), (5, 10), (6, 10), (7, 10)])
 (.seq (.ops [⟨some 27, none, .fad (.tmp 6) 5⟩,
 ⟨none, none, .st 1 (.tmp 27) (.const (.int .i32 0))⟩,
 ⟨some 28, none, .fad (.tmp 7) 5⟩,
 ⟨none, none, .st 1 (.tmp 28) (.const (.int .i32 0))⟩])
 (.seq (.ops [⟨some 29, none, .ld 6 (.tmp 6)⟩,
 ⟨some 30, none, .ld 6 (.tmp 7)⟩,
 ⟨some 31, none, .eqc true [0, 0, 0, 1, 0, 0] (.tmp 29) (.tmp 30)⟩])
 (.cond (.tmp 31)
 (.seq (.ops [⟨some 4, none, .mov (.const (.bool false))⟩])
 .ret)
 .skip)))))
 (.ops [⟨some 17, none, .mov (.tmp 5)⟩,
 ⟨some 18, none, .bin .add (.tmp 17) (.const (.int .i64 1))⟩,
 ⟨some 5, none, .mov (.tmp 18)⟩]))))))
 (.seq (.ops [⟨some 4, none, .mov (.const (.bool true))⟩])
 .ret))))⟩
theorem ok21 : compF Tryz.prog Tryz.f21 = some c21 := by kernel_rfl
def c22 : CF := ⟨52, [.tmp 2, .tmp 3],
 (.seq (.ops [⟨some 2, none, .mov (.const (.int .i64 0))⟩,
 ⟨some 3, none, .mov (.const (.int .i64 0))⟩])
 (.seq (.seq (.ops [⟨some 12, none, .mov (.tmp 0)⟩,
 ⟨some 13, none, .call (.func 27) [(.tmp 12)]⟩,
 ⟨some 11, none, .mov (.tmp 13)⟩,
 ⟨some 14, none, .ext (.tmp 11) 0⟩,
 ⟨some 15, none, .ext (.tmp 11) 1⟩,
 ⟨some 4, none, .mov (.tmp 14)⟩,
 ⟨some 5, none, .mov (.tmp 15)⟩])
 (.seq (.ops [⟨some 16, none, .mov (.tmp 5)⟩,
 ⟨some 17, none, .bin .neq (.tmp 16) (.const (.int .i64 0))⟩])
 (.cond (.tmp 17)
 (.seq (.ops [⟨some 18, none, .mov (.tmp 4)⟩,
 ⟨some 19, none, .mov (.tmp 5)⟩,
 ⟨some 2, none, .mov (.tmp 18)⟩,
 ⟨some 3, none, .mov (.tmp 19)⟩])
 .ret)
 .skip)))
 (.seq (.ops [⟨some 20, none, .mov (.tmp 0)⟩,
 ⟨some 21, none, .call (.func 23) [(.tmp 20)]⟩,
 ⟨some 6, none, .mov (.tmp 21)⟩])
 (.seq (.seq (.ops [⟨some 22, none, .mov (.tmp 0)⟩,
 ⟨some 23, none, .lnl (.tmp 22)⟩,
 ⟨some 24, none, .mov (.const (.int .i64 0))⟩])
 (.block 0 (.loop (.seq (.ops [⟨some 25, none, .bin .lss (.tmp 24) (.tmp 23)⟩])
 (.seq (.cond (.tmp 25)
 .skip
 (.exit 0))
 (.seq (.block 1 (.seq (.ops [⟨some 26, none, .mov (.tmp 24)⟩,
 ⟨some 27, none, .iad 7 (.tmp 22) (.tmp 24)⟩,
 ⟨some 28, none, .ld 7 (.tmp 27)⟩,
 ⟨some 8, none, .newz [(.int .i64 0), (.int .i64 0), (.int .i64 0), (.string ⟨#[]⟩), (.int .i64 0), (.int .i64 0), (.int .i64 0)]⟩,
 ⟨some 7, none, .mov (.tmp 26)⟩,
 ⟨none, none, .st 7 (.tmp 8) (.tmp 28)⟩])
 (.seq (.seq (.ops [⟨some 29, none, .fad (.tmp 8) 0⟩,
 ⟨some 30, none, .ld1 (.tmp 29)⟩,
 ⟨some 31, none, .bin .eql (.tmp 30) (.const (.int .i64 10))⟩,
 ⟨some 32, none, .mov (.tmp 31)⟩,
 ⟨some 33, (some (32, true)), .fad (.tmp 8) 1⟩,
 ⟨some 34, (some (32, true)), .ld1 (.tmp 33)⟩,
 ⟨some 35, (some (32, true)), .bin .gtr (.tmp 34) (.const (.int .i64 9))⟩,
 ⟨some 36, none, .pick (.tmp 32) (.tmp 35) (.const (.bool false))⟩])
 (.cond (.tmp 36)
 (.seq (.ops [⟨some 37, none, .mov (.tmp 7)⟩,
 ⟨some 2, none, .mov (.tmp 37)⟩,
 ⟨some 3, none, .mov (.const (.int .i64 3))⟩])
 .ret)
 .skip))
 (.seq (.ops [⟨some 39, none, .mov (.tmp 6)⟩,
 ⟨some 40, none, .mov (.tmp 7)⟩,
 ⟨some 41, none, .call (.func 28) [(.tmp 39), (.tmp 40)]⟩,
 ⟨some 38, none, .mov (.tmp 41)⟩,
 ⟨some 42, none, .ext (.tmp 38) 0⟩,
 ⟨some 43, none, .ext (.tmp 38) 1⟩,
 ⟨some 9, none, .mov (.tmp 42)⟩,
 ⟨some 10, none, .mov (.tmp 43)⟩])
 (.seq (.ops [⟨some 44, none, .mov (.tmp 9)⟩,
 ⟨some 45, none, .mov (.tmp 44)⟩,
 ⟨some 46, (some (45, true)), .fad (.tmp 8) 0⟩,
 ⟨some 47, (some (45, true)), .ld1 (.tmp 46)⟩,
 ⟨some 48, (some (45, true)), .bin .eql (.tmp 47) (.const (.int .i64 24))⟩,
 ⟨some 49, none, .pick (.tmp 45) (.tmp 48) (.const (.bool false))⟩])
 (.cond (.tmp 49)
 (.seq (.ops [⟨some 50, none, .mov (.tmp 7)⟩,
 ⟨some 2, none, .mov (.tmp 50)⟩,
 ⟨some 3, none, .mov (.const (.int .i64 6))⟩])
 .ret)
 .skip))))))
 (.ops [⟨some 51, none, .bin .add (.tmp 24) (.const (.int .i64 1))⟩,
 ⟨some 24, none, .mov (.tmp 51)⟩])))))))
 (.seq (.ops [⟨some 2, none, .mov (.const (.int .i64 0))⟩,
 ⟨some 3, none, .mov (.const (.int .i64 0))⟩])
 .ret)))))⟩
theorem ok22 : compF Tryz.prog Tryz.f22 = some c22 := by kernel_rfl
def c23 : CF := ⟨44, [.tmp 2],
 (.seq (.ops [⟨some 2, none, .mov (.const (.pointer none))⟩])
 (.seq (.ops [⟨some 6, none, .mov (.tmp 0)⟩,
 ⟨some 7, none, .mov (.tmp 0)⟩,
 ⟨some 8, none, .lnl (.tmp 7)⟩,
 ⟨some 9, none, .mks 8 [(.int .i64 0)] (.tmp 8) (.tmp 8)⟩,
 ⟨some 10, none, .agg [(.slice none 0 0), (.slice none 0 0)] [(0, 1, (.tmp 6)), (1, 1, (.tmp 9))]⟩,
 ⟨some 11, none, .box (.tmp 10)⟩,
 ⟨some 3, none, .mov (.tmp 11)⟩])
 (.seq (.seq (.ops [⟨some 12, none, .mov (.tmp 0)⟩,
 ⟨some 13, none, .lnl (.tmp 12)⟩,
 ⟨some 14, none, .bin .sub (.tmp 13) (.const (.int .i64 1))⟩,
 ⟨some 4, none, .mov (.tmp 14)⟩])
 (.block 0 (.loop (.seq (.seq (.ops [⟨some 15, none, .mov (.tmp 4)⟩,
 ⟨some 16, none, .bin .geq (.tmp 15) (.const (.int .i64 0))⟩])
 (.cond (.tmp 16)
 .skip
 (.exit 0)))
 (.seq (.block 1 (.seq (.ops [⟨some 19, none, .mov (.tmp 4)⟩,
 ⟨some 20, none, .bin .add (.tmp 19) (.const (.int .i64 1))⟩,
 ⟨some 5, none, .mov (.tmp 20)⟩])
 (.seq (.seq (.ops [⟨some 21, none, .mov (.tmp 0)⟩,
 ⟨some 22, none, .mov (.tmp 4)⟩,
 ⟨some 23, none, .iad 7 (.tmp 21) (.tmp 22)⟩,
 ⟨some 24, none, .fad (.tmp 23) 1⟩,
 ⟨some 25, none, .ld1 (.tmp 24)⟩,
 ⟨some 26, none, .mov (.const (.int .i64 0))⟩])
 (.block 2 (.loop (.seq (.ops [⟨some 27, none, .bin .lss (.tmp 26) (.tmp 25)⟩])
 (.seq (.cond (.tmp 27)
 .skip
 (.exit 2))
 (.seq (.block 3 (.ops [⟨some 28, none, .mov (.tmp 3)⟩,
 ⟨some 29, none, .nilck (.tmp 28)⟩,
 ⟨some 30, none, .fad (.tmp 29) 1⟩,
 ⟨some 31, none, .ld1 (.tmp 30)⟩,
 ⟨some 32, none, .mov (.tmp 5)⟩,
 ⟨some 33, none, .iad 1 (.tmp 31) (.tmp 32)⟩,
 ⟨some 34, none, .ld1 (.tmp 33)⟩,
 ⟨some 5, none, .mov (.tmp 34)⟩]))
 (.ops [⟨some 35, none, .bin .add (.tmp 26) (.const (.int .i64 1))⟩,
 ⟨some 26, none, .mov (.tmp 35)⟩])))))))
 (.ops [⟨some 36, none, .mov (.tmp 3)⟩,
 ⟨some 37, none, .nilck (.tmp 36)⟩,
 ⟨some 38, none, .fad (.tmp 37) 1⟩,
 ⟨some 39, none, .ld1 (.tmp 38)⟩,
 ⟨some 40, none, .mov (.tmp 4)⟩,
 ⟨some 41, none, .mov (.tmp 5)⟩,
 ⟨some 42, none, .iad 1 (.tmp 39) (.tmp 40)⟩,
 ⟨none, none, .st 1 (.tmp 42) (.tmp 41)⟩]))))
 (.ops [⟨some 17, none, .mov (.tmp 4)⟩,
 ⟨some 18, none, .bin .sub (.tmp 17) (.const (.int .i64 1))⟩,
 ⟨some 4, none, .mov (.tmp 18)⟩]))))))
 (.seq (.ops [⟨some 43, none, .mov (.tmp 3)⟩,
 ⟨some 2, none, .mov (.tmp 43)⟩])
 .ret))))⟩
theorem ok23 : compF Tryz.prog Tryz.f23 = some c23 := by kernel_rfl
def c24 : CF := ⟨44, [],
 (.ops [⟨some 2, none, .mov (.tmp 0)⟩,
 ⟨some 3, none, .mov (.tmp 0)⟩,
 ⟨some 4, none, .fn 29 [(.tmp 3)] []⟩,
 ⟨some 5, none, .mov (.tmp 0)⟩,
 ⟨some 6, none, .fn 29 [(.tmp 5)] []⟩,
 ⟨some 7, none, .mov (.tmp 0)⟩,
 ⟨some 8, none, .fn 30 [(.tmp 7)] []⟩,
 ⟨some 9, none, .mov (.tmp 0)⟩,
 ⟨some 10, none, .fn 31 [(.tmp 9)] []⟩,
 ⟨some 11, none, .mov (.tmp 0)⟩,
 ⟨some 12, none, .fn 32 [(.tmp 11)] []⟩,
 ⟨some 13, none, .mov (.tmp 0)⟩,
 ⟨some 14, none, .fn 33 [(.tmp 13)] []⟩,
 ⟨some 15, none, .mov (.tmp 0)⟩,
 ⟨some 16, none, .fn 34 [(.tmp 15)] []⟩,
 ⟨some 17, none, .mov (.tmp 0)⟩,
 ⟨some 18, none, .fn 35 [(.tmp 17)] []⟩,
 ⟨some 19, none, .mov (.tmp 0)⟩,
 ⟨some 20, none, .fn 36 [(.tmp 19)] []⟩,
 ⟨some 21, none, .mov (.tmp 0)⟩,
 ⟨some 22, none, .fn 37 [(.tmp 21)] []⟩,
 ⟨some 23, none, .mov (.tmp 0)⟩,
 ⟨some 24, none, .fn 38 [(.tmp 23)] []⟩,
 ⟨some 25, none, .mov (.tmp 0)⟩,
 ⟨some 26, none, .fn 39 [(.tmp 25)] []⟩,
 ⟨some 27, none, .mov (.tmp 0)⟩,
 ⟨some 28, none, .fn 40 [(.tmp 27)] []⟩,
 ⟨some 29, none, .mov (.tmp 0)⟩,
 ⟨some 30, none, .fn 41 [(.tmp 29)] []⟩,
 ⟨some 31, none, .mov (.tmp 0)⟩,
 ⟨some 32, none, .fn 42 [(.tmp 31)] []⟩,
 ⟨some 33, none, .mov (.tmp 0)⟩,
 ⟨some 34, none, .fn 43 [(.tmp 33)] []⟩,
 ⟨some 35, none, .mov (.tmp 0)⟩,
 ⟨some 36, none, .fn 43 [(.tmp 35)] []⟩,
 ⟨some 37, none, .mov (.tmp 0)⟩,
 ⟨some 38, none, .fn 44 [(.tmp 37)] []⟩,
 ⟨some 39, none, .mov (.tmp 0)⟩,
 ⟨some 40, none, .fn 45 [(.tmp 39)] []⟩,
 ⟨some 41, none, .agg [.nilFunc, .nilFunc, .nilFunc, .nilFunc, .nilFunc, .nilFunc, .nilFunc, .nilFunc, .nilFunc, .nilFunc, .nilFunc, .nilFunc, .nilFunc, .nilFunc, .nilFunc, .nilFunc, .nilFunc, .nilFunc, .nilFunc, .nilFunc, .nilFunc, .nilFunc, .nilFunc, .nilFunc, .nilFunc] [(1, 1, (.tmp 4)), (2, 1, (.tmp 6)), (3, 1, (.tmp 8)), (6, 1, (.tmp 10)), (7, 1, (.tmp 12)), (8, 1, (.tmp 14)), (10, 1, (.tmp 16)), (11, 1, (.tmp 18)), (24, 1, (.tmp 20)), (12, 1, (.tmp 22)), (13, 1, (.tmp 24)), (14, 1, (.tmp 26)), (15, 1, (.tmp 28)), (18, 1, (.tmp 30)), (19, 1, (.tmp 32)), (20, 1, (.tmp 34)), (21, 1, (.tmp 36)), (22, 1, (.tmp 38)), (23, 1, (.tmp 40))]⟩,
 ⟨some 42, none, .nilck (.tmp 2)⟩,
 ⟨some 43, none, .fad (.tmp 42) 2⟩,
 ⟨none, none, .st 25 (.tmp 43) (.tmp 41)⟩])⟩
theorem ok24 : compF Tryz.prog Tryz.f24 = some c24 := by kernel_rfl
def c25 : CF := ⟨33, [.tmp 6],
 (.seq (.ops [⟨some 6, none, .mov (.const (.slice none 0 0))⟩])
 (.seq (.seq (.ops [⟨some 7, none, .mov (.tmp 0)⟩,
 ⟨some 8, none, .nilck (.tmp 7)⟩,
 ⟨some 9, none, .fad (.tmp 8) 1⟩,
 ⟨some 10, none, .ld1 (.tmp 9)⟩])
 (.cond (.tmp 10)
 (.seq (.ops [⟨some 11, none, .mov (.tmp 0)⟩,
 ⟨some 12, none, .mov (.tmp 1)⟩,
 ⟨some 13, none, .call (.func 46) [(.tmp 11), (.tmp 12)]⟩,
 ⟨some 6, none, .mov (.tmp 13)⟩])
 .ret)
 .skip))
 (.seq (.draw [⟨some 14, none, .mov (.tmp 0)⟩,
 ⟨some 15, none, .mov (.tmp 0)⟩,
 ⟨some 16, none, .nilck (.tmp 15)⟩,
 ⟨some 17, none, .fad (.tmp 16) 0⟩,
 ⟨some 18, none, .ld1 (.tmp 17)⟩,
 ⟨some 19, none, .nilck (.tmp 18)⟩,
 ⟨some 20, none, .fad (.tmp 19) 0⟩,
 ⟨some 21, none, .ld1 (.tmp 20)⟩,
 ⟨some 22, none, .mov (.tmp 1)⟩,
 ⟨some 23, none, .iad 7 (.tmp 21) (.tmp 22)⟩,
 ⟨some 24, none, .fad (.tmp 23) 0⟩,
 ⟨some 25, none, .ld1 (.tmp 24)⟩,
 ⟨some 26, none, .nilck (.tmp 14)⟩,
 ⟨some 27, none, .fad (.tmp 26) 2⟩,
 ⟨some 28, none, .iaa 25 1 (.tmp 27) (.tmp 25)⟩,
 ⟨some 29, none, .ld1 (.tmp 28)⟩,
 ⟨some 30, none, .mov (.tmp 1)⟩,
 ⟨some 31, none, .mov (.tmp 2)⟩,
 ⟨some 32, none, .call (.tmp 29) [(.tmp 30), (.tmp 31)]⟩,
 ⟨some 6, none, .mov (.tmp 32)⟩] [(0, 1), (0, 2), (0, 3), (0, 4), (0, 5), (0, 6), (0, 7), (0, 8), (1, 8), (2, 8), (3, 8), (4, 8), (5, 8), (6, 8), (7, 8), (0, 9), (0, 10), (0, 11), (1, 12), (2, 12), (3, 12), (4, 12), (5, 12), (6, 12), (7, 12), (8, 12), (9, 12), (10, 12), (11, 12), (1, 13), (2, 13), (3, 13), (4, 13), (5, 13), (6, 13), (7, 13), (8, 13), (9, 13), (10, 13), (11, 13), (0, 16), (1, 16), (2, 16), (3, 16), (4, 16), (5, 16), (6, 16), (7, 16), (8, 16), (9, 16), (10, 16), (11, 16), (12, 16), (13, 16), (14, 16), (15, 16), (0, 17), (1, 17), (2, 17), (3, 17), (4, 17), (5, 17), (6, 17), (7, 17), (8, 17), (9, 17), (10, 17), (11, 17), (12, 17), (13, 17), (14, 17), (15, 17), (16, 17)])
 .ret)))⟩
theorem ok25 : compF Tryz.prog Tryz.f25 = some c25 := by kernel_rfl
def c26 : CF := ⟨128, [.tmp 4, .tmp 5],
 (.seq (.ops [⟨some 4, none, .mov (.const (.int .i64 0))⟩,
 ⟨some 5, none, .mov (.const (.int .i64 0))⟩])
 (.seq (.block 0 (.seq (.ops [⟨some 15, none, .mov (.tmp 0)⟩,
 ⟨some 16, none, .lnl (.tmp 15)⟩,
 ⟨some 17, none, .bin .eql (.tmp 16) (.const (.int .i64 0))⟩,
 ⟨some 14, none, .mov (.tmp 17)⟩])
 (.cond (.tmp 14)
 (.seq (.ops [⟨some 4, none, .mov (.const (.int .i64 0))⟩,
 ⟨some 5, none, .mov (.const (.int .i64 6))⟩])
 .ret)
 (.seq (.ops [⟨some 19, none, .mov (.tmp 0)⟩,
 ⟨some 20, none, .lnl (.tmp 19)⟩,
 ⟨some 21, none, .bin .gtr (.tmp 20) (.const (.int .i64 2000))⟩,
 ⟨some 18, none, .mov (.tmp 21)⟩])
 (.cond (.tmp 18)
 (.seq (.ops [⟨some 4, none, .mov (.const (.int .i64 0))⟩,
 ⟨some 5, none, .mov (.const (.int .i64 3))⟩])
 .ret)
 .skip)))))
 (.seq (.ops [⟨some 22, none, .lits [(.int .i64 0)] 1 [(0, 1, (.const (.int .i64 1)))]⟩,
 ⟨some 6, none, .mov (.tmp 22)⟩])
 (.seq (.seq (.ops [⟨some 23, none, .mov (.tmp 0)⟩,
 ⟨some 24, none, .lnl (.tmp 23)⟩,
 ⟨some 25, none, .mov (.const (.int .i64 0))⟩])
 (.block 1 (.loop (.seq (.ops [⟨some 26, none, .bin .lss (.tmp 25) (.tmp 24)⟩])
 (.seq (.cond (.tmp 26)
 .skip
 (.exit 1))
 (.seq (.block 2 (.seq (.ops [⟨some 27, none, .mov (.tmp 25)⟩,
 ⟨some 28, none, .iad 6 (.tmp 23) (.tmp 25)⟩,
 ⟨some 29, none, .ld 6 (.tmp 28)⟩,
 ⟨some 8, none, .newz [(.int .i64 0), (.int .i64 0), (.int .i64 0), (.string ⟨#[]⟩), (.int .i32 0), (.int .i32 0)]⟩,
 ⟨some 7, none, .mov (.tmp 27)⟩,
 ⟨none, none, .st 6 (.tmp 8) (.tmp 29)⟩])
 (.seq (.block 3 (.loop (.seq (.seq (.ops [⟨some 30, none, .mov (.tmp 6)⟩,
 ⟨some 31, none, .lnl (.tmp 30)⟩,
 ⟨some 32, none, .bin .gtr (.tmp 31) (.const (.int .i64 0))⟩,
 ⟨some 33, none, .mov (.tmp 32)⟩,
 ⟨some 34, (some (33, true)), .mov (.tmp 6)⟩,
 ⟨some 35, (some (33, true)), .mov (.tmp 6)⟩,
 ⟨some 36, (some (33, true)), .lnl (.tmp 35)⟩,
 ⟨some 37, (some (33, true)), .bin .sub (.tmp 36) (.const (.int .i64 1))⟩,
 ⟨some 38, (some (33, true)), .iad 1 (.tmp 34) (.tmp 37)⟩,
 ⟨some 39, (some (33, true)), .ld1 (.tmp 38)⟩,
 ⟨some 40, (some (33, true)), .bin .eql (.tmp 39) (.const (.int .i64 0))⟩,
 ⟨some 41, none, .pick (.tmp 33) (.tmp 40) (.const (.bool false))⟩])
 (.cond (.tmp 41)
 .skip
 (.exit 3)))
 (.block 4 (.ops [⟨some 42, none, .mov (.tmp 6)⟩,
 ⟨some 43, none, .mov (.tmp 6)⟩,
 ⟨some 44, none, .lnl (.tmp 43)⟩,
 ⟨some 45, none, .bin .sub (.tmp 44) (.const (.int .i64 1))⟩,
 ⟨some 46, none, .sl 1 (.tmp 42) none (some (.tmp 45)) none⟩,
 ⟨some 6, none, .mov (.tmp 46)⟩])))))
 (.seq (.block 5 (.seq (.ops [⟨some 48, none, .mov (.tmp 6)⟩,
 ⟨some 49, none, .lnl (.tmp 48)⟩,
 ⟨some 50, none, .bin .eql (.tmp 49) (.const (.int .i64 0))⟩,
 ⟨some 51, none, .mov (.tmp 50)⟩,
 ⟨some 52, (some (51, false)), .fad (.tmp 8) 0⟩,
 ⟨some 53, (some (51, false)), .ld1 (.tmp 52)⟩,
 ⟨some 54, (some (51, false)), .bin .lss (.tmp 53) (.const (.int .i64 1))⟩,
 ⟨some 55, none, .pick (.tmp 51) (.const (.bool true)) (.tmp 54)⟩,
 ⟨some 56, none, .mov (.tmp 55)⟩,
 ⟨some 57, (some (56, false)), .fad (.tmp 8) 0⟩,
 ⟨some 58, (some (56, false)), .ld1 (.tmp 57)⟩,
 ⟨some 59, (some (56, false)), .bin .gtr (.tmp 58) (.const (.int .i64 12))⟩,
 ⟨some 60, none, .pick (.tmp 56) (.const (.bool true)) (.tmp 59)⟩,
 ⟨some 61, none, .mov (.tmp 60)⟩,
 ⟨some 62, (some (61, false)), .fad (.tmp 8) 1⟩,
 ⟨some 63, (some (61, false)), .ld1 (.tmp 62)⟩,
 ⟨some 64, (some (61, false)), .bin .lss (.tmp 63) (.const (.int .i64 0))⟩,
 ⟨some 65, none, .pick (.tmp 61) (.const (.bool true)) (.tmp 64)⟩,
 ⟨some 47, none, .mov (.tmp 65)⟩])
 (.cond (.tmp 47)
 (.seq (.ops [⟨some 66, none, .mov (.tmp 7)⟩,
 ⟨some 4, none, .mov (.tmp 66)⟩,
 ⟨some 5, none, .mov (.const (.int .i64 6))⟩])
 .ret)
 (.seq (.ops [⟨some 68, none, .mov (.tmp 6)⟩,
 ⟨some 69, none, .lnl (.tmp 68)⟩,
 ⟨some 70, none, .bin .gtr (.tmp 69) (.const (.int .i64 201))⟩,
 ⟨some 67, none, .mov (.tmp 70)⟩])
 (.cond (.tmp 67)
 (.seq (.ops [⟨some 71, none, .mov (.tmp 7)⟩,
 ⟨some 4, none, .mov (.tmp 71)⟩,
 ⟨some 5, none, .mov (.const (.int .i64 3))⟩])
 .ret)
 .skip)))))
 (.seq (.seq (.ops [⟨some 72, none, .ld 6 (.tmp 8)⟩,
 ⟨some 73, none, .call (.func 47) [(.tmp 72)]⟩,
 ⟨some 9, none, .mov (.tmp 73)⟩])
 (.seq (.ops [⟨some 74, none, .mov (.tmp 9)⟩,
 ⟨some 75, none, .bin .neq (.tmp 74) (.const (.int .i64 0))⟩])
 (.cond (.tmp 75)
 (.seq (.ops [⟨some 76, none, .mov (.tmp 7)⟩,
 ⟨some 77, none, .mov (.tmp 9)⟩,
 ⟨some 4, none, .mov (.tmp 76)⟩,
 ⟨some 5, none, .mov (.tmp 77)⟩])
 .ret)
 .skip)))
 (.seq (.seq (.ops [⟨some 78, none, .ld 6 (.tmp 8)⟩,
 ⟨some 79, none, .mov (.tmp 1)⟩,
 ⟨some 80, none, .call (.func 48) [(.tmp 78), (.tmp 79)]⟩,
 ⟨some 10, none, .mov (.tmp 80)⟩])
 (.seq (.ops [⟨some 81, none, .mov (.tmp 10)⟩,
 ⟨some 82, none, .bin .neq (.tmp 81) (.const (.int .i64 0))⟩])
 (.cond (.tmp 82)
 (.seq (.ops [⟨some 83, none, .mov (.tmp 7)⟩,
 ⟨some 84, none, .mov (.tmp 10)⟩,
 ⟨some 4, none, .mov (.tmp 83)⟩,
 ⟨some 5, none, .mov (.tmp 84)⟩])
 .ret)
 .skip)))
 (.seq (.ops [⟨some 85, none, .mov (.tmp 6)⟩,
 ⟨some 86, none, .mov (.tmp 6)⟩,
 ⟨some 87, none, .lnl (.tmp 86)⟩,
 ⟨some 88, none, .bin .sub (.tmp 87) (.const (.int .i64 1))⟩,
 ⟨some 89, none, .iad 1 (.tmp 85) (.tmp 88)⟩,
 ⟨some 90, none, .ld1 (.tmp 89)⟩,
 ⟨some 91, none, .bin .sub (.tmp 90) (.const (.int .i64 1))⟩,
 ⟨some 92, none, .iad 1 (.tmp 85) (.tmp 88)⟩,
 ⟨none, none, .st 1 (.tmp 92) (.tmp 91)⟩])
 (.ops [⟨some 93, none, .mov (.tmp 6)⟩,
 ⟨some 94, none, .fad (.tmp 8) 1⟩,
 ⟨some 95, none, .ld1 (.tmp 94)⟩,
 ⟨some 96, none, .lits [(.int .i64 0)] 1 [(0, 1, (.tmp 95))]⟩,
 ⟨some 97, none, .app 1 8 none (.tmp 93) (.tmp 96)⟩,
 ⟨some 6, none, .mov (.tmp 97)⟩]))))))))
 (.ops [⟨some 98, none, .bin .add (.tmp 25) (.const (.int .i64 1))⟩,
 ⟨some 25, none, .mov (.tmp 98)⟩])))))))
 (.seq (.block 6 (.seq (.ops [⟨some 100, none, .mov (.tmp 6)⟩,
 ⟨some 101, none, .call (.func 49) [(.tmp 100)]⟩,
 ⟨some 102, none, .bin .gtr (.tmp 101) (.const (.int .i64 0))⟩,
 ⟨some 99, none, .mov (.tmp 102)⟩])
 (.cond (.tmp 99)
 (.seq (.ops [⟨some 103, none, .mov (.tmp 0)⟩,
 ⟨some 104, none, .lnl (.tmp 103)⟩,
 ⟨some 4, none, .mov (.tmp 104)⟩,
 ⟨some 5, none, .mov (.const (.int .i64 6))⟩])
 .ret)
 (.seq (.ops [⟨some 106, none, .mov (.tmp 0)⟩,
 ⟨some 107, none, .iad 6 (.tmp 106) (.const (.int .i64 0))⟩,
 ⟨some 108, none, .fad (.tmp 107) 0⟩,
 ⟨some 109, none, .ld1 (.tmp 108)⟩,
 ⟨some 110, none, .bin .eql (.tmp 109) (.const (.int .i64 12))⟩,
 ⟨some 105, none, .mov (.tmp 110)⟩])
 (.cond (.tmp 105)
 (.seq (.ops [⟨some 4, none, .mov (.const (.int .i64 0))⟩,
 ⟨some 5, none, .mov (.const (.int .i64 6))⟩])
 .ret)
 .skip)))))
 (.seq (.ops [⟨some 111, none, .mov (.tmp 0)⟩,
 ⟨some 112, none, .call (.func 50) [(.tmp 111)]⟩,
 ⟨some 11, none, .mov (.tmp 112)⟩])
 (.seq (.seq (.ops [⟨some 113, none, .mov (.tmp 0)⟩,
 ⟨some 114, none, .lnl (.tmp 113)⟩,
 ⟨some 115, none, .mov (.const (.int .i64 0))⟩])
 (.block 7 (.loop (.seq (.ops [⟨some 116, none, .bin .lss (.tmp 115) (.tmp 114)⟩])
 (.seq (.cond (.tmp 116)
 .skip
 (.exit 7))
 (.seq (.block 8 (.seq (.ops [⟨some 117, none, .mov (.tmp 115)⟩,
 ⟨some 12, none, .mov (.tmp 117)⟩])
 (.seq (.ops [⟨some 118, none, .mov (.tmp 0)⟩,
 ⟨some 119, none, .mov (.tmp 11)⟩,
 ⟨some 120, none, .mov (.tmp 12)⟩,
 ⟨some 121, none, .mov (.tmp 1)⟩,
 ⟨some 122, none, .call (.func 51) [(.tmp 118), (.tmp 119), (.tmp 120), (.tmp 121)]⟩,
 ⟨some 13, none, .mov (.tmp 122)⟩])
 (.seq (.ops [⟨some 123, none, .mov (.tmp 13)⟩,
 ⟨some 124, none, .bin .neq (.tmp 123) (.const (.int .i64 0))⟩])
 (.cond (.tmp 124)
 (.seq (.ops [⟨some 125, none, .mov (.tmp 12)⟩,
 ⟨some 126, none, .mov (.tmp 13)⟩,
 ⟨some 4, none, .mov (.tmp 125)⟩,
 ⟨some 5, none, .mov (.tmp 126)⟩])
 .ret)
 .skip)))))
 (.ops [⟨some 127, none, .bin .add (.tmp 115) (.const (.int .i64 1))⟩,
 ⟨some 115, none, .mov (.tmp 127)⟩])))))))
 (.seq (.ops [⟨some 4, none, .mov (.const (.int .i64 0))⟩,
 ⟨some 5, none, .mov (.const (.int .i64 0))⟩])
 .ret))))))))⟩
theorem ok26 : compF Tryz.prog Tryz.f26 = some c26 := by kernel_rfl
def c27 : CF := ⟨14, [.tmp 2, .tmp 3],
 (.seq (.ops [⟨some 2, none, .mov (.const (.int .i64 0))⟩,
 ⟨some 3, none, .mov (.const (.int .i64 0))⟩])
 (.seq (.ops [⟨some 7, none, .mov (.tmp 0)⟩,
 ⟨some 8, none, .call (.func 52) [(.tmp 7)]⟩,
 ⟨some 6, none, .mov (.tmp 8)⟩,
 ⟨some 9, none, .ext (.tmp 6) 0⟩,
 ⟨some 10, none, .ext (.tmp 6) 1⟩,
 ⟨some 11, none, .ext (.tmp 6) 2⟩,
 ⟨some 4, none, .mov (.tmp 9)⟩,
 ⟨some 5, none, .mov (.tmp 10)⟩,
 ⟨some 3, none, .mov (.tmp 11)⟩])
 (.seq (.ops [⟨some 12, none, .mov (.tmp 5)⟩,
 ⟨some 13, none, .mov (.tmp 3)⟩,
 ⟨some 2, none, .mov (.tmp 12)⟩,
 ⟨some 3, none, .mov (.tmp 13)⟩])
 .ret)))⟩
theorem ok27 : compF Tryz.prog Tryz.f27 = some c27 := by kernel_rfl
def c28 : CF := ⟨69, [.tmp 4, .tmp 5],
 (.seq (.ops [⟨some 4, none, .mov (.const (.bool false))⟩,
 ⟨some 5, none, .mov (.const (.bool false))⟩])
 (.seq (.seq (.ops [⟨some 11, none, .mov (.tmp 0)⟩,
 ⟨some 12, none, .nilck (.tmp 11)⟩,
 ⟨some 13, none, .fad (.tmp 12) 0⟩,
 ⟨some 14, none, .ld1 (.tmp 13)⟩,
 ⟨some 15, none, .mov (.tmp 1)⟩,
 ⟨some 16, none, .iad 7 (.tmp 14) (.tmp 15)⟩,
 ⟨some 17, none, .fad (.tmp 16) 0⟩,
 ⟨some 18, none, .ld1 (.tmp 17)⟩])
 (.block 0 (.seq (.seq (.ops [⟨some 20, none, .bin .eql (.tmp 18) (.const (.int .i64 1))⟩,
 ⟨some 19, none, .mov (.tmp 20)⟩])
 (.cond (.tmp 19)
 .skip
 (.ops [⟨some 21, none, .bin .eql (.tmp 18) (.const (.int .i64 2))⟩,
 ⟨some 19, none, .mov (.tmp 21)⟩])))
 (.cond (.tmp 19)
 (.seq (.ops [⟨some 4, none, .mov (.const (.bool true))⟩,
 ⟨some 5, none, .mov (.const (.bool false))⟩])
 .ret)
 (.seq (.ops [⟨some 23, none, .bin .eql (.tmp 18) (.const (.int .i64 3))⟩,
 ⟨some 22, none, .mov (.tmp 23)⟩])
 (.cond (.tmp 22)
 (.seq (.draw [⟨some 24, none, .mov (.tmp 0)⟩,
 ⟨some 25, none, .nilck (.tmp 24)⟩,
 ⟨some 26, none, .fad (.tmp 25) 0⟩,
 ⟨some 27, none, .ld1 (.tmp 26)⟩,
 ⟨some 28, none, .mov (.tmp 1)⟩,
 ⟨some 29, none, .bin .add (.tmp 28) (.const (.int .i64 1))⟩,
 ⟨some 30, none, .iad 7 (.tmp 27) (.tmp 29)⟩,
 ⟨some 31, none, .fad (.tmp 30) 0⟩,
 ⟨some 32, none, .ld1 (.tmp 31)⟩,
 ⟨some 33, none, .bin .eql (.tmp 32) (.const (.int .i64 5))⟩,
 ⟨some 4, none, .mov (.const (.bool true))⟩,
 ⟨some 5, none, .mov (.tmp 33)⟩] [(0, 4), (1, 4), (2, 4), (3, 4), (0, 5), (1, 5), (2, 5), (3, 5), (0, 10), (1, 10), (2, 10), (3, 10), (4, 10), (5, 10), (6, 10), (7, 10), (8, 10), (9, 10)])
 .ret)
 (.seq (.ops [⟨some 35, none, .bin .eql (.tmp 18) (.const (.int .i64 24))⟩,
 ⟨some 34, none, .mov (.tmp 35)⟩])
 (.cond (.tmp 34)
 (.seq (.ops [⟨some 36, none, .mov (.tmp 0)⟩,
 ⟨some 37, none, .mov (.tmp 1)⟩,
 ⟨some 38, none, .call (.func 53) [(.tmp 36), (.tmp 37)]⟩,
 ⟨some 6, none, .mov (.tmp 38)⟩])
 (.seq (.ops [⟨some 40, none, .mov (.tmp 0)⟩,
 ⟨some 41, none, .mov (.tmp 6)⟩,
 ⟨some 42, none, .iad 1 (.tmp 41) (.const (.int .i64 0))⟩,
 ⟨some 43, none, .ld1 (.tmp 42)⟩,
 ⟨some 44, none, .call (.func 28) [(.tmp 40), (.tmp 43)]⟩,
 ⟨some 39, none, .mov (.tmp 44)⟩,
 ⟨some 45, none, .ext (.tmp 39) 0⟩,
 ⟨some 46, none, .ext (.tmp 39) 1⟩,
 ⟨some 7, none, .mov (.tmp 45)⟩,
 ⟨some 8, none, .mov (.tmp 46)⟩])
 (.seq (.ops [⟨some 48, none, .mov (.tmp 0)⟩,
 ⟨some 49, none, .mov (.tmp 6)⟩,
 ⟨some 50, none, .iad 1 (.tmp 49) (.const (.int .i64 1))⟩,
 ⟨some 51, none, .ld1 (.tmp 50)⟩,
 ⟨some 52, none, .call (.func 28) [(.tmp 48), (.tmp 51)]⟩,
 ⟨some 47, none, .mov (.tmp 52)⟩,
 ⟨some 53, none, .ext (.tmp 47) 0⟩,
 ⟨some 54, none, .ext (.tmp 47) 1⟩,
 ⟨some 9, none, .mov (.tmp 53)⟩,
 ⟨some 10, none, .mov (.tmp 54)⟩])
 (.seq (.ops [⟨some 55, none, .mov (.tmp 7)⟩,
 ⟨some 56, none, .mov (.tmp 55)⟩,
 ⟨some 57, (some (56, true)), .mov (.tmp 9)⟩,
 ⟨some 58, none, .pick (.tmp 56) (.tmp 57) (.const (.bool false))⟩,
 ⟨some 59, none, .mov (.tmp 58)⟩,
 ⟨some 60, (some (59, true)), .mov (.tmp 10)⟩,
 ⟨some 61, none, .pick (.tmp 59) (.tmp 60) (.const (.bool false))⟩,
 ⟨some 62, none, .mov (.tmp 7)⟩,
 ⟨some 63, none, .mov (.tmp 62)⟩,
 ⟨some 64, (some (63, true)), .mov (.tmp 9)⟩,
 ⟨some 65, none, .pick (.tmp 63) (.tmp 64) (.const (.bool false))⟩,
 ⟨some 66, none, .mov (.tmp 65)⟩,
 ⟨some 67, (some (66, true)), .mov (.tmp 10)⟩,
 ⟨some 68, none, .pick (.tmp 66) (.tmp 67) (.const (.bool false))⟩,
 ⟨some 4, none, .mov (.tmp 61)⟩,
 ⟨some 5, none, .mov (.tmp 68)⟩])
 .ret))))
 .skip))))))))
 (.seq (.ops [⟨some 4, none, .mov (.const (.bool false))⟩,
 ⟨some 5, none, .mov (.const (.bool false))⟩])
 .ret)))⟩
theorem ok28 : compF Tryz.prog Tryz.f28 = some c28 := by kernel_rfl
def c29 : CF := ⟨75, [.tmp 6],
 (.seq (.ops [⟨some 6, none, .mov (.const (.slice none 0 0))⟩])
 (.seq (.ops [⟨some 11, none, .mov (.tmp 0)⟩,
 ⟨some 12, none, .nilck (.tmp 11)⟩,
 ⟨some 13, none, .fad (.tmp 12) 0⟩,
 ⟨some 14, none, .ld1 (.tmp 13)⟩,
 ⟨some 15, none, .nilck (.tmp 14)⟩,
 ⟨some 16, none, .fad (.tmp 15) 0⟩,
 ⟨some 17, none, .ld1 (.tmp 16)⟩,
 ⟨some 18, none, .mov (.tmp 1)⟩,
 ⟨some 19, none, .iad 7 (.tmp 17) (.tmp 18)⟩,
 ⟨some 20, none, .ld 7 (.tmp 19)⟩,
 ⟨some 7, none, .newz [(.int .i64 0), (.int .i64 0), (.int .i64 0), (.string ⟨#[]⟩), (.int .i64 0), (.int .i64 0), (.int .i64 0)]⟩,
 ⟨none, none, .st 7 (.tmp 7) (.tmp 20)⟩])
 (.seq (.seq (.ops [⟨some 21, none, .fad (.tmp 7) 0⟩,
 ⟨some 22, none, .ld1 (.tmp 21)⟩])
 (.block 0 (.seq (.ops [⟨some 24, none, .bin .eql (.tmp 22) (.const (.int .i64 1))⟩,
 ⟨some 23, none, .mov (.tmp 24)⟩])
 (.cond (.tmp 23)
 (.seq (.ops [⟨some 25, none, .mov (.tmp 0)⟩,
 ⟨some 26, none, .fad (.tmp 7) 2⟩,
 ⟨some 27, none, .ld1 (.tmp 26)⟩,
 ⟨some 28, none, .agg [(.int .i64 0), (.int .i64 0), (.int .i64 0), (.string ⟨#[]⟩), (.int .i32 0), (.int .i32 0)] [(0, 1, (.const (.int .i64 1))), (2, 1, (.tmp 27))]⟩,
 ⟨some 29, none, .mov (.tmp 1)⟩,
 ⟨some 30, none, .call (.func 54) [(.tmp 25), (.tmp 28), (.tmp 29), (.const (.slice none 0 0))]⟩,
 ⟨some 6, none, .mov (.tmp 30)⟩])
 .ret)
 (.seq (.ops [⟨some 32, none, .bin .eql (.tmp 22) (.const (.int .i64 2))⟩,
 ⟨some 31, none, .mov (.tmp 32)⟩])
 (.cond (.tmp 31)
 (.seq (.ops [⟨some 33, none, .mov (.tmp 0)⟩,
 ⟨some 34, none, .fad (.tmp 7) 2⟩,
 ⟨some 35, none, .ld1 (.tmp 34)⟩,
 ⟨some 36, none, .mov (.tmp 1)⟩,
 ⟨some 37, none, .call (.func 55) [(.tmp 33), (.tmp 35), (.tmp 36)]⟩,
 ⟨some 6, none, .mov (.tmp 37)⟩])
 .ret)
 (.seq (.ops [⟨some 39, none, .bin .eql (.tmp 22) (.const (.int .i64 4))⟩,
 ⟨some 38, none, .mov (.tmp 39)⟩])
 (.cond (.tmp 38)
 (.seq (.ops [⟨some 40, none, .mov (.tmp 0)⟩,
 ⟨some 41, none, .fad (.tmp 7) 3⟩,
 ⟨some 42, none, .ld1 (.tmp 41)⟩,
 ⟨some 43, none, .agg [(.int .i64 0), (.int .i64 0), (.int .i64 0), (.string ⟨#[]⟩), (.int .i32 0), (.int .i32 0)] [(0, 1, (.const (.int .i64 3))), (3, 1, (.tmp 42))]⟩,
 ⟨some 44, none, .mov (.tmp 1)⟩,
 ⟨some 45, none, .call (.func 54) [(.tmp 40), (.tmp 43), (.tmp 44), (.const (.slice none 0 0))]⟩,
 ⟨some 6, none, .mov (.tmp 45)⟩])
 .ret)
 .skip))))))))
 (.seq (.ops [⟨some 46, none, .mov (.tmp 0)⟩,
 ⟨some 47, none, .nilck (.tmp 46)⟩,
 ⟨some 48, none, .fad (.tmp 47) 0⟩,
 ⟨some 49, none, .ld1 (.tmp 48)⟩,
 ⟨some 50, none, .mov (.tmp 1)⟩,
 ⟨some 51, none, .call (.func 53) [(.tmp 49), (.tmp 50)]⟩,
 ⟨some 8, none, .mov (.tmp 51)⟩])
 (.seq (.ops [⟨some 52, none, .mov (.tmp 0)⟩,
 ⟨some 53, none, .mov (.tmp 1)⟩,
 ⟨some 54, none, .call (.func 46) [(.tmp 52), (.tmp 53)]⟩,
 ⟨some 9, none, .mov (.tmp 54)⟩])
 (.seq (.seq (.ops [⟨some 55, none, .mov (.tmp 8)⟩,
 ⟨some 56, none, .lnl (.tmp 55)⟩,
 ⟨some 57, none, .bin .sub (.tmp 56) (.const (.int .i64 1))⟩,
 ⟨some 10, none, .mov (.tmp 57)⟩])
 (.block 1 (.loop (.seq (.seq (.ops [⟨some 58, none, .mov (.tmp 10)⟩,
 ⟨some 59, none, .bin .geq (.tmp 58) (.const (.int .i64 0))⟩])
 (.cond (.tmp 59)
 .skip
 (.exit 1)))
 (.seq (.block 2 (.ops [⟨some 62, none, .mov (.tmp 0)⟩,
 ⟨some 63, none, .agg [(.int .i64 0), (.int .i64 0), (.int .i64 0), (.string ⟨#[]⟩), (.int .i32 0), (.int .i32 0)] [(0, 1, (.const (.int .i64 5)))]⟩,
 ⟨some 64, none, .mov (.tmp 1)⟩,
 ⟨some 65, none, .mov (.tmp 0)⟩,
 ⟨some 66, none, .mov (.tmp 8)⟩,
 ⟨some 67, none, .mov (.tmp 10)⟩,
 ⟨some 68, none, .iad 1 (.tmp 66) (.tmp 67)⟩,
 ⟨some 69, none, .ld1 (.tmp 68)⟩,
 ⟨some 70, none, .call (.func 29) [(.tmp 65), (.tmp 69), (.const (.slice none 0 0))]⟩,
 ⟨some 71, none, .mov (.tmp 9)⟩,
 ⟨some 72, none, .lits [(.slice none 0 0), (.slice none 0 0)] 2 [(0, 1, (.tmp 70)), (1, 1, (.tmp 71))]⟩,
 ⟨some 73, none, .call (.func 54) [(.tmp 62), (.tmp 63), (.tmp 64), (.tmp 72)]⟩,
 ⟨some 9, none, .mov (.tmp 73)⟩]))
 (.ops [⟨some 60, none, .mov (.tmp 10)⟩,
 ⟨some 61, none, .bin .sub (.tmp 60) (.const (.int .i64 1))⟩,
 ⟨some 10, none, .mov (.tmp 61)⟩]))))))
 (.seq (.ops [⟨some 74, none, .mov (.tmp 9)⟩,
 ⟨some 6, none, .mov (.tmp 74)⟩])
 .ret)))))))⟩
theorem ok29 : compF Tryz.prog Tryz.f29 = some c29 := by kernel_rfl
def c30 : CF := ⟨11, [.tmp 6],
 (.seq (.ops [⟨some 6, none, .mov (.const (.slice none 0 0))⟩])
 (.seq (.ops [⟨some 7, none, .mov (.tmp 0)⟩,
 ⟨some 8, none, .mov (.tmp 1)⟩,
 ⟨some 9, none, .bin .add (.tmp 8) (.const (.int .i64 1))⟩,
 ⟨some 10, none, .call (.func 29) [(.tmp 7), (.tmp 9), (.const (.slice none 0 0))]⟩,
 ⟨some 6, none, .mov (.tmp 10)⟩])
 .ret))⟩
theorem ok30 : compF Tryz.prog Tryz.f30 = some c30 := by kernel_rfl
def c31 : CF := ⟨24, [.tmp 6],
 (.seq (.ops [⟨some 6, none, .mov (.const (.slice none 0 0))⟩])
 (.seq (.ops [⟨some 7, none, .mov (.tmp 0)⟩,
 ⟨some 8, none, .mov (.tmp 2)⟩,
 ⟨some 9, none, .mov (.tmp 0)⟩,
 ⟨some 10, none, .nilck (.tmp 9)⟩,
 ⟨some 11, none, .fad (.tmp 10) 0⟩,
 ⟨some 12, none, .ld1 (.tmp 11)⟩,
 ⟨some 13, none, .nilck (.tmp 12)⟩,
 ⟨some 14, none, .fad (.tmp 13) 0⟩,
 ⟨some 15, none, .ld1 (.tmp 14)⟩,
 ⟨some 16, none, .mov (.tmp 1)⟩,
 ⟨some 17, none, .iad 7 (.tmp 15) (.tmp 16)⟩,
 ⟨some 18, none, .fad (.tmp 17) 2⟩,
 ⟨some 19, none, .ld1 (.tmp 18)⟩,
 ⟨some 20, none, .call (.func 56) [(.tmp 8), (.tmp 19)]⟩,
 ⟨some 21, none, .agg [(.int .i64 0), (.int .i64 0), (.int .i64 0), (.string ⟨#[]⟩), (.int .i32 0), (.int .i32 0)] [(0, 1, (.const (.int .i64 7))), (2, 1, (.tmp 20))]⟩,
 ⟨some 22, none, .mov (.tmp 1)⟩,
 ⟨some 23, none, .call (.func 54) [(.tmp 7), (.tmp 21), (.tmp 22), (.const (.slice none 0 0))]⟩,
 ⟨some 6, none, .mov (.tmp 23)⟩])
 .ret))⟩
theorem ok31 : compF Tryz.prog Tryz.f31 = some c31 := by kernel_rfl
def c32 : CF := ⟨22, [.tmp 6],
 (.seq (.ops [⟨some 6, none, .mov (.const (.slice none 0 0))⟩])
 (.seq (.ops [⟨some 7, none, .mov (.tmp 0)⟩,
 ⟨some 8, none, .mov (.tmp 0)⟩,
 ⟨some 9, none, .nilck (.tmp 8)⟩,
 ⟨some 10, none, .fad (.tmp 9) 0⟩,
 ⟨some 11, none, .ld1 (.tmp 10)⟩,
 ⟨some 12, none, .nilck (.tmp 11)⟩,
 ⟨some 13, none, .fad (.tmp 12) 0⟩,
 ⟨some 14, none, .ld1 (.tmp 13)⟩,
 ⟨some 15, none, .mov (.tmp 1)⟩,
 ⟨some 16, none, .iad 7 (.tmp 14) (.tmp 15)⟩,
 ⟨some 17, none, .fad (.tmp 16) 3⟩,
 ⟨some 18, none, .ld1 (.tmp 17)⟩,
 ⟨some 19, none, .agg [(.int .i64 0), (.int .i64 0), (.int .i64 0), (.string ⟨#[]⟩), (.int .i32 0), (.int .i32 0)] [(0, 1, (.const (.int .i64 6))), (3, 1, (.tmp 18))]⟩,
 ⟨some 20, none, .mov (.tmp 1)⟩,
 ⟨some 21, none, .call (.func 54) [(.tmp 7), (.tmp 19), (.tmp 20), (.const (.slice none 0 0))]⟩,
 ⟨some 6, none, .mov (.tmp 21)⟩])
 .ret))⟩
theorem ok32 : compF Tryz.prog Tryz.f32 = some c32 := by kernel_rfl
def c33 : CF := ⟨28, [.tmp 6],
 (.seq (.ops [⟨some 6, none, .mov (.const (.slice none 0 0))⟩])
 (.seq (.ops [⟨some 11, none, .mov (.tmp 0)⟩,
 ⟨some 12, none, .mov (.tmp 1)⟩,
 ⟨some 13, none, .call (.func 57) [(.tmp 11), (.tmp 12)]⟩,
 ⟨some 10, none, .mov (.tmp 13)⟩,
 ⟨some 14, none, .ext (.tmp 10) 0⟩,
 ⟨some 15, none, .ext (.tmp 10) 1⟩,
 ⟨some 16, none, .ext (.tmp 10) 2⟩,
 ⟨some 7, none, .mov (.tmp 14)⟩,
 ⟨some 8, none, .mov (.tmp 15)⟩,
 ⟨some 9, none, .mov (.tmp 16)⟩])
 (.seq (.ops [⟨some 17, none, .mov (.tmp 0)⟩,
 ⟨some 18, none, .mov (.tmp 7)⟩,
 ⟨some 19, none, .lnl (.tmp 18)⟩,
 ⟨some 20, none, .mov (.tmp 1)⟩,
 ⟨some 21, none, .mov (.tmp 0)⟩,
 ⟨some 22, none, .mov (.tmp 9)⟩,
 ⟨some 23, none, .mov (.tmp 2)⟩,
 ⟨some 24, none, .mov (.tmp 7)⟩,
 ⟨some 25, none, .call (.func 59) [(.tmp 23), (.tmp 24)]⟩,
 ⟨some 26, none, .call (.func 25) [(.tmp 21), (.tmp 22), (.tmp 25)]⟩,
 ⟨some 27, none, .call (.func 58) [(.tmp 17), (.const (.int .i32 0)), (.tmp 19), (.tmp 20), (.tmp 26)]⟩,
 ⟨some 6, none, .mov (.tmp 27)⟩])
 .ret)))⟩
theorem ok33 : compF Tryz.prog Tryz.f33 = some c33 := by kernel_rfl
def c34 : CF := ⟨19, [.tmp 6],
 (.seq (.ops [⟨some 6, none, .mov (.const (.slice none 0 0))⟩])
 (.seq (.ops [⟨some 7, none, .mov (.tmp 0)⟩,
 ⟨some 8, none, .mov (.tmp 1)⟩,
 ⟨some 9, none, .mov (.tmp 0)⟩,
 ⟨some 10, none, .mov (.tmp 0)⟩,
 ⟨some 11, none, .nilck (.tmp 10)⟩,
 ⟨some 12, none, .fad (.tmp 11) 0⟩,
 ⟨some 13, none, .ld1 (.tmp 12)⟩,
 ⟨some 14, none, .mov (.tmp 1)⟩,
 ⟨some 15, none, .call (.func 53) [(.tmp 13), (.tmp 14)]⟩,
 ⟨some 16, none, .mov (.tmp 2)⟩,
 ⟨some 17, none, .call (.func 61) [(.tmp 9), (.tmp 15), (.tmp 16)]⟩,
 ⟨some 18, none, .call (.func 60) [(.tmp 7), (.const (.int .i32 0)), (.tmp 8), (.tmp 17)]⟩,
 ⟨some 6, none, .mov (.tmp 18)⟩])
 .ret))⟩
theorem ok34 : compF Tryz.prog Tryz.f34 = some c34 := by kernel_rfl
def c35 : CF := ⟨19, [.tmp 6],
 (.seq (.ops [⟨some 6, none, .mov (.const (.slice none 0 0))⟩])
 (.seq (.ops [⟨some 7, none, .mov (.tmp 0)⟩,
 ⟨some 8, none, .mov (.tmp 1)⟩,
 ⟨some 9, none, .mov (.tmp 0)⟩,
 ⟨some 10, none, .mov (.tmp 0)⟩,
 ⟨some 11, none, .nilck (.tmp 10)⟩,
 ⟨some 12, none, .fad (.tmp 11) 0⟩,
 ⟨some 13, none, .ld1 (.tmp 12)⟩,
 ⟨some 14, none, .mov (.tmp 1)⟩,
 ⟨some 15, none, .call (.func 53) [(.tmp 13), (.tmp 14)]⟩,
 ⟨some 16, none, .mov (.tmp 2)⟩,
 ⟨some 17, none, .call (.func 61) [(.tmp 9), (.tmp 15), (.tmp 16)]⟩,
 ⟨some 18, none, .call (.func 62) [(.tmp 7), (.const (.int .i32 0)), (.tmp 8), (.tmp 17)]⟩,
 ⟨some 6, none, .mov (.tmp 18)⟩])
 .ret))⟩
theorem ok35 : compF Tryz.prog Tryz.f35 = some c35 := by kernel_rfl
def c36 : CF := ⟨20, [.tmp 6],
 (.seq (.ops [⟨some 6, none, .mov (.const (.slice none 0 0))⟩])
 (.seq (.ops [⟨some 7, none, .mov (.tmp 0)⟩,
 ⟨some 8, none, .agg [(.int .i64 0), (.int .i64 0), (.int .i64 0), (.string ⟨#[]⟩), (.int .i32 0), (.int .i32 0)] [(0, 1, (.const (.int .i64 5)))]⟩,
 ⟨some 9, none, .mov (.tmp 1)⟩,
 ⟨some 10, none, .mov (.tmp 0)⟩,
 ⟨some 11, none, .mov (.tmp 0)⟩,
 ⟨some 12, none, .nilck (.tmp 11)⟩,
 ⟨some 13, none, .fad (.tmp 12) 0⟩,
 ⟨some 14, none, .ld1 (.tmp 13)⟩,
 ⟨some 15, none, .mov (.tmp 1)⟩,
 ⟨some 16, none, .call (.func 53) [(.tmp 14), (.tmp 15)]⟩,
 ⟨some 17, none, .mov (.tmp 2)⟩,
 ⟨some 18, none, .call (.func 61) [(.tmp 10), (.tmp 16), (.tmp 17)]⟩,
 ⟨some 19, none, .call (.func 54) [(.tmp 7), (.tmp 8), (.tmp 9), (.tmp 18)]⟩,
 ⟨some 6, none, .mov (.tmp 19)⟩])
 .ret))⟩
theorem ok36 : compF Tryz.prog Tryz.f36 = some c36 := by kernel_rfl
def c37 : CF := ⟨39, [.tmp 6],
 (.seq (.ops [⟨some 6, none, .mov (.const (.slice none 0 0))⟩])
 (.seq (.ops [⟨some 12, none, .mov (.tmp 0)⟩,
 ⟨some 13, none, .mov (.tmp 1)⟩,
 ⟨some 14, none, .call (.func 57) [(.tmp 12), (.tmp 13)]⟩,
 ⟨some 11, none, .mov (.tmp 14)⟩,
 ⟨some 15, none, .ext (.tmp 11) 0⟩,
 ⟨some 16, none, .ext (.tmp 11) 1⟩,
 ⟨some 17, none, .ext (.tmp 11) 2⟩,
 ⟨some 7, none, .mov (.tmp 15)⟩,
 ⟨some 8, none, .mov (.tmp 16)⟩,
 ⟨some 9, none, .mov (.tmp 17)⟩])
 (.seq (.ops [⟨some 18, none, .mov (.tmp 0)⟩,
 ⟨some 19, none, .mov (.tmp 7)⟩,
 ⟨some 20, none, .lnl (.tmp 19)⟩,
 ⟨some 21, none, .mov (.tmp 1)⟩,
 ⟨some 22, none, .mov (.tmp 0)⟩,
 ⟨some 23, none, .mov (.tmp 9)⟩,
 ⟨some 24, none, .mov (.tmp 2)⟩,
 ⟨some 25, none, .mov (.tmp 7)⟩,
 ⟨some 26, none, .call (.func 59) [(.tmp 24), (.tmp 25)]⟩,
 ⟨some 27, none, .call (.func 25) [(.tmp 22), (.tmp 23), (.tmp 26)]⟩,
 ⟨some 28, none, .call (.func 58) [(.tmp 18), (.const (.int .i32 2)), (.tmp 20), (.tmp 21), (.tmp 27)]⟩,
 ⟨some 10, none, .mov (.tmp 28)⟩])
 (.seq (.ops [⟨some 29, none, .mov (.tmp 0)⟩,
 ⟨some 30, none, .mov (.tmp 1)⟩,
 ⟨some 31, none, .mov (.tmp 10)⟩,
 ⟨some 32, none, .lits [(.slice none 0 0)] 1 [(0, 1, (.tmp 31))]⟩,
 ⟨some 33, none, .mov (.tmp 0)⟩,
 ⟨some 34, none, .mov (.tmp 8)⟩,
 ⟨some 35, none, .mov (.tmp 2)⟩,
 ⟨some 36, none, .call (.func 61) [(.tmp 33), (.tmp 34), (.tmp 35)]⟩,
 ⟨some 37, none, .app 1 24 none (.tmp 32) (.tmp 36)⟩,
 ⟨some 38, none, .call (.func 60) [(.tmp 29), (.const (.int .i32 1)), (.tmp 30), (.tmp 37)]⟩,
 ⟨some 6, none, .mov (.tmp 38)⟩])
 .ret))))⟩
theorem ok37 : compF Tryz.prog Tryz.f37 = some c37 := by kernel_rfl
def c38 : CF := ⟨80, [.tmp 6],
 (.seq (.ops [⟨some 6, none, .mov (.const (.slice none 0 0))⟩])
 (.seq (.ops [⟨some 16, none, .mov (.tmp 0)⟩,
 ⟨some 17, none, .mov (.tmp 1)⟩,
 ⟨some 18, none, .call (.func 57) [(.tmp 16), (.tmp 17)]⟩,
 ⟨some 15, none, .mov (.tmp 18)⟩,
 ⟨some 19, none, .ext (.tmp 15) 0⟩,
 ⟨some 20, none, .ext (.tmp 15) 1⟩,
 ⟨some 21, none, .ext (.tmp 15) 2⟩,
 ⟨some 7, none, .mov (.tmp 19)⟩,
 ⟨some 8, none, .mov (.tmp 20)⟩,
 ⟨some 9, none, .mov (.tmp 21)⟩])
 (.seq (.ops [⟨some 22, none, .mov (.tmp 2)⟩,
 ⟨some 23, none, .lits [(.slice none 0 0)] 1 [(0, 1, (.tmp 22))]⟩,
 ⟨some 10, none, .mov (.tmp 23)⟩])
 (.seq (.seq (.ops [⟨some 24, none, .mov (.tmp 7)⟩,
 ⟨some 25, none, .lnl (.tmp 24)⟩,
 ⟨some 26, none, .mov (.const (.int .i64 0))⟩])
 (.block 0 (.loop (.seq (.ops [⟨some 27, none, .bin .lss (.tmp 26) (.tmp 25)⟩])
 (.seq (.cond (.tmp 27)
 .skip
 (.exit 0))
 (.seq (.block 1 (.seq (.ops [⟨some 28, none, .iad 1 (.tmp 24) (.tmp 26)⟩,
 ⟨some 29, none, .ld1 (.tmp 28)⟩,
 ⟨some 12, none, .mov (.tmp 29)⟩])
 (.ops [⟨some 30, none, .mov (.tmp 10)⟩,
 ⟨some 31, none, .mov (.tmp 10)⟩,
 ⟨some 32, none, .mov (.tmp 10)⟩,
 ⟨some 33, none, .lnl (.tmp 32)⟩,
 ⟨some 34, none, .bin .sub (.tmp 33) (.const (.int .i64 1))⟩,
 ⟨some 35, none, .iad 1 (.tmp 31) (.tmp 34)⟩,
 ⟨some 36, none, .ld1 (.tmp 35)⟩,
 ⟨some 37, none, .mov (.tmp 12)⟩,
 ⟨some 38, none, .lits [(.int .i64 0)] 1 [(0, 1, (.tmp 37))]⟩,
 ⟨some 39, none, .call (.func 59) [(.tmp 36), (.tmp 38)]⟩,
 ⟨some 40, none, .lits [(.slice none 0 0)] 1 [(0, 1, (.tmp 39))]⟩,
 ⟨some 41, none, .app 1 24 none (.tmp 30) (.tmp 40)⟩,
 ⟨some 10, none, .mov (.tmp 41)⟩])))
 (.ops [⟨some 42, none, .bin .add (.tmp 26) (.const (.int .i64 1))⟩,
 ⟨some 26, none, .mov (.tmp 42)⟩])))))))
 (.seq (.ops [⟨some 43, none, .mov (.tmp 0)⟩,
 ⟨some 44, none, .mov (.tmp 1)⟩,
 ⟨some 45, none, .mov (.tmp 0)⟩,
 ⟨some 46, none, .mov (.tmp 9)⟩,
 ⟨some 47, none, .mov (.tmp 10)⟩,
 ⟨some 48, none, .mov (.tmp 7)⟩,
 ⟨some 49, none, .lnl (.tmp 48)⟩,
 ⟨some 50, none, .iad 1 (.tmp 47) (.tmp 49)⟩,
 ⟨some 51, none, .ld1 (.tmp 50)⟩,
 ⟨some 52, none, .call (.func 25) [(.tmp 45), (.tmp 46), (.tmp 51)]⟩,
 ⟨some 53, none, .call (.func 63) [(.tmp 43), (.const (.int .i32 5)), (.tmp 44), (.tmp 52)]⟩,
 ⟨some 13, none, .mov (.tmp 53)⟩])
 (.seq (.seq (.ops [⟨some 54, none, .mov (.tmp 7)⟩,
 ⟨some 55, none, .lnl (.tmp 54)⟩,
 ⟨some 56, none, .bin .sub (.tmp 55) (.const (.int .i64 1))⟩,
 ⟨some 14, none, .mov (.tmp 56)⟩])
 (.block 2 (.loop (.seq (.seq (.ops [⟨some 57, none, .mov (.tmp 14)⟩,
 ⟨some 58, none, .bin .geq (.tmp 57) (.const (.int .i64 0))⟩])
 (.cond (.tmp 58)
 .skip
 (.exit 2)))
 (.seq (.block 3 (.draw [⟨some 61, none, .mov (.tmp 0)⟩,
 ⟨some 62, none, .mov (.tmp 1)⟩,
 ⟨some 63, none, .mov (.tmp 0)⟩,
 ⟨some 64, none, .mov (.tmp 1)⟩,
 ⟨some 65, none, .mov (.tmp 13)⟩,
 ⟨some 66, none, .call (.func 58) [(.tmp 63), (.const (.int .i32 4)), (.const (.int .i64 1)), (.tmp 64), (.tmp 65)]⟩,
 ⟨some 67, none, .mov (.tmp 0)⟩,
 ⟨some 68, none, .mov (.tmp 8)⟩,
 ⟨some 69, none, .mov (.tmp 14)⟩,
 ⟨some 70, none, .iad 1 (.tmp 68) (.tmp 69)⟩,
 ⟨some 71, none, .ld1 (.tmp 70)⟩,
 ⟨some 72, none, .mov (.tmp 10)⟩,
 ⟨some 73, none, .mov (.tmp 14)⟩,
 ⟨some 74, none, .iad 1 (.tmp 72) (.tmp 73)⟩,
 ⟨some 75, none, .ld1 (.tmp 74)⟩,
 ⟨some 76, none, .call (.func 25) [(.tmp 67), (.tmp 71), (.tmp 75)]⟩,
 ⟨some 77, none, .lits [(.slice none 0 0), (.slice none 0 0)] 2 [(0, 1, (.tmp 66)), (1, 1, (.tmp 76))]⟩,
 ⟨some 78, none, .call (.func 60) [(.tmp 61), (.const (.int .i32 3)), (.tmp 62), (.tmp 77)]⟩,
 ⟨some 13, none, .mov (.tmp 78)⟩] [(0, 1), (0, 2), (1, 2), (0, 3), (1, 3), (2, 3), (0, 4), (1, 4), (2, 4), (3, 4), (0, 5), (1, 5), (0, 6), (1, 6), (2, 6), (3, 6), (4, 6), (5, 6), (0, 7), (1, 7), (2, 7), (3, 7), (4, 7), (5, 7), (6, 7), (0, 8), (1, 8), (2, 8), (3, 8), (4, 8), (5, 8), (6, 8), (7, 8), (0, 9), (1, 9), (2, 9), (3, 9), (4, 9), (5, 9), (6, 9), (0, 10), (1, 10), (2, 10), (3, 10), (4, 10), (5, 10), (6, 10), (0, 11), (1, 11), (2, 11), (3, 11), (4, 11), (5, 11), (6, 11), (7, 11), (8, 11), (9, 11), (10, 11), (0, 12), (1, 12), (2, 12), (3, 12), (4, 12), (5, 12), (6, 12), (7, 12), (8, 12), (9, 12), (10, 12), (11, 12), (0, 13), (1, 13), (2, 13), (3, 13), (4, 13), (5, 13), (6, 13), (7, 13), (8, 13), (9, 13), (10, 13), (0, 14), (1, 14), (2, 14), (3, 14), (4, 14), (5, 14), (6, 14), (7, 14), (8, 14), (9, 14), (10, 14), (0, 15), (1, 15), (0, 16), (1, 16)]))
 (.ops [⟨some 59, none, .mov (.tmp 14)⟩,
 ⟨some 60, none, .bin .sub (.tmp 59) (.const (.int .i64 1))⟩,
 ⟨some 14, none, .mov (.tmp 60)⟩]))))))
 (.seq (.ops [⟨some 79, none, .mov (.tmp 13)⟩,
 ⟨some 6, none, .mov (.tmp 79)⟩])
 .ret)))))))⟩
theorem ok38 : compF Tryz.prog Tryz.f38 = some c38 := by kernel_rfl
def c39 : CF := ⟨44, [.tmp 6],
 (.seq (.ops [⟨some 6, none, .mov (.const (.slice none 0 0))⟩])
 (.seq (.ops [⟨some 12, none, .mov (.tmp 0)⟩,
 ⟨some 13, none, .mov (.tmp 1)⟩,
 ⟨some 14, none, .call (.func 57) [(.tmp 12), (.tmp 13)]⟩,
 ⟨some 11, none, .mov (.tmp 14)⟩,
 ⟨some 15, none, .ext (.tmp 11) 0⟩,
 ⟨some 16, none, .ext (.tmp 11) 1⟩,
 ⟨some 17, none, .ext (.tmp 11) 2⟩,
 ⟨some 7, none, .mov (.tmp 15)⟩,
 ⟨some 8, none, .mov (.tmp 16)⟩,
 ⟨some 9, none, .mov (.tmp 17)⟩])
 (.seq (.seq (.ops [⟨some 18, none, .mov (.tmp 7)⟩,
 ⟨some 19, none, .lnl (.tmp 18)⟩,
 ⟨some 20, none, .bin .eql (.tmp 19) (.const (.int .i64 0))⟩])
 (.cond (.tmp 20)
 (.seq (.ops [⟨some 21, none, .mov (.tmp 0)⟩,
 ⟨some 22, none, .mov (.tmp 1)⟩,
 ⟨some 23, none, .mov (.tmp 0)⟩,
 ⟨some 24, none, .mov (.tmp 9)⟩,
 ⟨some 25, none, .mov (.tmp 2)⟩,
 ⟨some 26, none, .call (.func 25) [(.tmp 23), (.tmp 24), (.tmp 25)]⟩,
 ⟨some 27, none, .call (.func 63) [(.tmp 21), (.const (.int .i32 26)), (.tmp 22), (.tmp 26)]⟩,
 ⟨some 6, none, .mov (.tmp 27)⟩])
 .ret)
 .skip))
 (.seq (.ops [⟨some 28, none, .mov (.tmp 2)⟩,
 ⟨some 29, none, .mov (.tmp 7)⟩,
 ⟨some 30, none, .call (.func 59) [(.tmp 28), (.tmp 29)]⟩,
 ⟨some 10, none, .mov (.tmp 30)⟩])
 (.seq (.ops [⟨some 31, none, .mov (.tmp 0)⟩,
 ⟨some 32, none, .mov (.tmp 7)⟩,
 ⟨some 33, none, .lnl (.tmp 32)⟩,
 ⟨some 34, none, .agg [(.int .i64 0), (.int .i64 0), (.int .i64 0), (.string ⟨#[]⟩), (.int .i32 0), (.int .i32 0)] [(0, 1, (.const (.int .i64 11))), (2, 1, (.tmp 33)), (4, 1, (.const (.int .i32 7)))]⟩,
 ⟨some 35, none, .mov (.tmp 1)⟩,
 ⟨some 36, none, .mov (.tmp 0)⟩,
 ⟨some 37, none, .mov (.tmp 8)⟩,
 ⟨some 38, none, .mov (.tmp 9)⟩,
 ⟨some 39, none, .lits [(.int .i64 0)] 1 [(0, 1, (.tmp 38))]⟩,
 ⟨some 40, none, .app 1 8 none (.tmp 37) (.tmp 39)⟩,
 ⟨some 41, none, .mov (.tmp 10)⟩,
 ⟨some 42, none, .call (.func 61) [(.tmp 36), (.tmp 40), (.tmp 41)]⟩,
 ⟨some 43, none, .call (.func 54) [(.tmp 31), (.tmp 34), (.tmp 35), (.tmp 42)]⟩,
 ⟨some 6, none, .mov (.tmp 43)⟩])
 .ret)))))⟩
theorem ok39 : compF Tryz.prog Tryz.f39 = some c39 := by kernel_rfl
def c40 : CF := ⟨66, [.tmp 6],
 (.seq (.ops [⟨some 6, none, .mov (.const (.slice none 0 0))⟩])
 (.seq (.ops [⟨some 12, none, .mov (.tmp 0)⟩,
 ⟨some 13, none, .nilck (.tmp 12)⟩,
 ⟨some 14, none, .fad (.tmp 13) 0⟩,
 ⟨some 15, none, .ld1 (.tmp 14)⟩,
 ⟨some 16, none, .mov (.tmp 1)⟩,
 ⟨some 17, none, .call (.func 53) [(.tmp 15), (.tmp 16)]⟩,
 ⟨some 7, none, .mov (.tmp 17)⟩])
 (.seq (.ops [⟨some 18, none, .mov (.tmp 7)⟩,
 ⟨some 19, none, .mov (.tmp 7)⟩,
 ⟨some 20, none, .lnl (.tmp 19)⟩,
 ⟨some 21, none, .bin .sub (.tmp 20) (.const (.int .i64 1))⟩,
 ⟨some 22, none, .iad 1 (.tmp 18) (.tmp 21)⟩,
 ⟨some 23, none, .ld1 (.tmp 22)⟩,
 ⟨some 8, none, .mov (.tmp 23)⟩])
 (.seq (.ops [⟨some 24, none, .mov (.tmp 0)⟩,
 ⟨some 25, none, .mov (.tmp 8)⟩,
 ⟨some 26, none, .mov (.tmp 0)⟩,
 ⟨some 27, none, .mov (.tmp 8)⟩,
 ⟨some 28, none, .bin .add (.tmp 27) (.const (.int .i64 1))⟩,
 ⟨some 29, none, .mov (.tmp 2)⟩,
 ⟨some 30, none, .call (.func 25) [(.tmp 26), (.tmp 28), (.tmp 29)]⟩,
 ⟨some 31, none, .call (.func 63) [(.tmp 24), (.const (.int .i32 9)), (.tmp 25), (.tmp 30)]⟩,
 ⟨some 9, none, .mov (.tmp 31)⟩])
 (.seq (.seq (.ops [⟨some 32, none, .mov (.tmp 7)⟩,
 ⟨some 33, none, .lnl (.tmp 32)⟩,
 ⟨some 34, none, .bin .sub (.tmp 33) (.const (.int .i64 2))⟩,
 ⟨some 10, none, .mov (.tmp 34)⟩])
 (.block 0 (.loop (.seq (.seq (.ops [⟨some 35, none, .mov (.tmp 10)⟩,
 ⟨some 36, none, .bin .geq (.tmp 35) (.const (.int .i64 0))⟩])
 (.cond (.tmp 36)
 .skip
 (.exit 0)))
 (.seq (.block 1 (.seq (.draw [⟨some 39, none, .mov (.tmp 0)⟩,
 ⟨some 40, none, .mov (.tmp 0)⟩,
 ⟨some 41, none, .nilck (.tmp 40)⟩,
 ⟨some 42, none, .fad (.tmp 41) 0⟩,
 ⟨some 43, none, .ld1 (.tmp 42)⟩,
 ⟨some 44, none, .mov (.tmp 7)⟩,
 ⟨some 45, none, .mov (.tmp 10)⟩,
 ⟨some 46, none, .iad 1 (.tmp 44) (.tmp 45)⟩,
 ⟨some 47, none, .ld1 (.tmp 46)⟩,
 ⟨some 48, none, .call (.func 53) [(.tmp 43), (.tmp 47)]⟩,
 ⟨some 49, none, .mov (.tmp 2)⟩,
 ⟨some 50, none, .call (.func 61) [(.tmp 39), (.tmp 48), (.tmp 49)]⟩,
 ⟨some 11, none, .mov (.tmp 50)⟩] [(0, 1), (0, 2), (0, 3), (0, 4), (0, 5), (1, 5), (2, 5), (3, 5), (4, 5), (0, 6), (1, 6), (2, 6), (3, 6), (4, 6), (5, 6), (0, 7), (1, 7), (2, 7), (3, 7), (4, 7), (0, 8), (1, 8), (2, 8), (3, 8), (4, 8), (0, 9), (0, 10), (1, 10), (2, 10), (3, 10), (4, 10), (5, 10), (6, 10), (7, 10), (8, 10), (9, 10)])
 (.draw [⟨some 51, none, .mov (.tmp 0)⟩,
 ⟨some 52, none, .mov (.tmp 7)⟩,
 ⟨some 53, none, .mov (.tmp 10)⟩,
 ⟨some 54, none, .iad 1 (.tmp 52) (.tmp 53)⟩,
 ⟨some 55, none, .ld1 (.tmp 54)⟩,
 ⟨some 56, none, .mov (.tmp 11)⟩,
 ⟨some 57, none, .iad 1 (.tmp 56) (.const (.int .i64 0))⟩,
 ⟨some 58, none, .ld1 (.tmp 57)⟩,
 ⟨some 59, none, .mov (.tmp 11)⟩,
 ⟨some 60, none, .iad 1 (.tmp 59) (.const (.int .i64 1))⟩,
 ⟨some 61, none, .ld1 (.tmp 60)⟩,
 ⟨some 62, none, .mov (.tmp 9)⟩,
 ⟨some 63, none, .lits [(.slice none 0 0), (.slice none 0 0), (.slice none 0 0)] 3 [(0, 1, (.tmp 58)), (1, 1, (.tmp 61)), (2, 1, (.tmp 62))]⟩,
 ⟨some 64, none, .call (.func 62) [(.tmp 51), (.const (.int .i32 8)), (.tmp 55), (.tmp 63)]⟩,
 ⟨some 9, none, .mov (.tmp 64)⟩] [(0, 1), (0, 2), (1, 2), (0, 3), (0, 4), (0, 5), (1, 5), (2, 5), (3, 5), (4, 5), (0, 6), (1, 6), (2, 6), (3, 6), (4, 6), (0, 7), (1, 7), (2, 7), (3, 7), (4, 7), (0, 8), (1, 8), (2, 8), (3, 8), (4, 8), (5, 8), (6, 8), (7, 8), (0, 9), (1, 9), (2, 9), (3, 9), (4, 9), (5, 9), (6, 9), (7, 9), (0, 10), (1, 10), (2, 10), (3, 10), (4, 10), (5, 10), (6, 10), (7, 10), (0, 11), (1, 11), (2, 11), (3, 11), (4, 11), (5, 11), (6, 11), (7, 11), (8, 11), (9, 11), (10, 11), (0, 12), (1, 12), (2, 12), (3, 12), (4, 12)])))
 (.ops [⟨some 37, none, .mov (.tmp 10)⟩,
 ⟨some 38, none, .bin .sub (.tmp 37) (.const (.int .i64 1))⟩,
 ⟨some 10, none, .mov (.tmp 38)⟩]))))))
 (.seq (.ops [⟨some 65, none, .mov (.tmp 9)⟩,
 ⟨some 6, none, .mov (.tmp 65)⟩])
 .ret))))))⟩
theorem ok40 : compF Tryz.prog Tryz.f40 = some c40 := by kernel_rfl
def c41 : CF := ⟨57, [.tmp 6],
 (.seq (.ops [⟨some 6, none, .mov (.const (.slice none 0 0))⟩])
 (.seq (.ops [⟨some 10, none, .mov (.tmp 0)⟩,
 ⟨some 11, none, .mov (.tmp 0)⟩,
 ⟨some 12, none, .nilck (.tmp 11)⟩,
 ⟨some 13, none, .fad (.tmp 12) 0⟩,
 ⟨some 14, none, .ld1 (.tmp 13)⟩,
 ⟨some 15, none, .mov (.tmp 1)⟩,
 ⟨some 16, none, .call (.func 53) [(.tmp 14), (.tmp 15)]⟩,
 ⟨some 17, none, .mov (.tmp 2)⟩,
 ⟨some 18, none, .call (.func 61) [(.tmp 10), (.tmp 16), (.tmp 17)]⟩,
 ⟨some 7, none, .mov (.tmp 18)⟩])
 (.seq (.seq (.ops [⟨some 19, none, .mov (.tmp 7)⟩,
 ⟨some 20, none, .lnl (.tmp 19)⟩,
 ⟨some 21, none, .bin .eql (.tmp 20) (.const (.int .i64 0))⟩])
 (.cond (.tmp 21)
 (.seq (.ops [⟨some 22, none, .mov (.tmp 0)⟩,
 ⟨some 23, none, .mov (.tmp 1)⟩,
 ⟨some 24, none, .mov (.tmp 0)⟩,
 ⟨some 25, none, .mov (.tmp 1)⟩,
 ⟨some 26, none, .call (.func 55) [(.tmp 24), (.const (.int .i64 1)), (.tmp 25)]⟩,
 ⟨some 27, none, .call (.func 63) [(.tmp 22), (.const (.int .i32 28)), (.tmp 23), (.tmp 26)]⟩,
 ⟨some 6, none, .mov (.tmp 27)⟩])
 .ret)
 .skip))
 (.seq (.ops [⟨some 28, none, .mov (.tmp 0)⟩,
 ⟨some 29, none, .mov (.tmp 1)⟩,
 ⟨some 30, none, .mov (.tmp 7)⟩,
 ⟨some 31, none, .mov (.tmp 7)⟩,
 ⟨some 32, none, .lnl (.tmp 31)⟩,
 ⟨some 33, none, .bin .sub (.tmp 32) (.const (.int .i64 1))⟩,
 ⟨some 34, none, .iad 1 (.tmp 30) (.tmp 33)⟩,
 ⟨some 35, none, .ld1 (.tmp 34)⟩,
 ⟨some 36, none, .call (.func 63) [(.tmp 28), (.const (.int .i32 11)), (.tmp 29), (.tmp 35)]⟩,
 ⟨some 8, none, .mov (.tmp 36)⟩])
 (.seq (.seq (.ops [⟨some 37, none, .mov (.tmp 7)⟩,
 ⟨some 38, none, .lnl (.tmp 37)⟩,
 ⟨some 39, none, .bin .sub (.tmp 38) (.const (.int .i64 2))⟩,
 ⟨some 9, none, .mov (.tmp 39)⟩])
 (.block 0 (.loop (.seq (.seq (.ops [⟨some 40, none, .mov (.tmp 9)⟩,
 ⟨some 41, none, .bin .geq (.tmp 40) (.const (.int .i64 0))⟩])
 (.cond (.tmp 41)
 .skip
 (.exit 0)))
 (.seq (.block 1 (.draw [⟨some 44, none, .mov (.tmp 0)⟩,
 ⟨some 45, none, .mov (.tmp 1)⟩,
 ⟨some 46, none, .mov (.tmp 7)⟩,
 ⟨some 47, none, .mov (.tmp 9)⟩,
 ⟨some 48, none, .iad 1 (.tmp 46) (.tmp 47)⟩,
 ⟨some 49, none, .ld1 (.tmp 48)⟩,
 ⟨some 50, none, .mov (.tmp 8)⟩,
 ⟨some 51, none, .mov (.tmp 0)⟩,
 ⟨some 52, none, .mov (.tmp 1)⟩,
 ⟨some 53, none, .call (.func 55) [(.tmp 51), (.const (.int .i64 0)), (.tmp 52)]⟩,
 ⟨some 54, none, .lits [(.slice none 0 0), (.slice none 0 0), (.slice none 0 0)] 3 [(0, 1, (.tmp 49)), (1, 1, (.tmp 50)), (2, 1, (.tmp 53))]⟩,
 ⟨some 55, none, .call (.func 62) [(.tmp 44), (.const (.int .i32 13)), (.tmp 45), (.tmp 54)]⟩,
 ⟨some 8, none, .mov (.tmp 55)⟩] [(0, 1), (0, 2), (1, 2), (0, 3), (1, 3), (2, 3), (0, 4), (1, 4), (0, 5), (1, 5), (0, 6), (1, 6), (2, 6), (3, 6), (4, 6), (5, 6), (0, 7), (1, 7), (2, 7), (3, 7), (4, 7), (5, 7), (6, 7), (0, 8), (1, 8), (2, 8), (3, 8), (4, 8), (5, 8), (6, 8), (7, 8), (0, 9), (1, 9), (2, 9), (3, 9), (4, 9), (5, 9), (6, 9), (0, 10), (1, 10)]))
 (.ops [⟨some 42, none, .mov (.tmp 9)⟩,
 ⟨some 43, none, .bin .sub (.tmp 42) (.const (.int .i64 1))⟩,
 ⟨some 9, none, .mov (.tmp 43)⟩]))))))
 (.seq (.ops [⟨some 56, none, .mov (.tmp 8)⟩,
 ⟨some 6, none, .mov (.tmp 56)⟩])
 .ret))))))⟩
theorem ok41 : compF Tryz.prog Tryz.f41 = some c41 := by kernel_rfl
def c42 : CF := ⟨34, [.tmp 6],
 (.seq (.ops [⟨some 3, none, .box (.tmp 0)⟩,
 ⟨some 4, none, .box (.tmp 1)⟩,
 ⟨some 6, none, .mov (.const (.slice none 0 0))⟩])
 (.seq (.draw [⟨some 10, none, .ld1 (.tmp 3)⟩,
 ⟨some 11, none, .nilck (.tmp 10)⟩,
 ⟨some 12, none, .fad (.tmp 11) 0⟩,
 ⟨some 13, none, .ld1 (.tmp 12)⟩,
 ⟨some 14, none, .ld1 (.tmp 4)⟩,
 ⟨some 15, none, .call (.func 53) [(.tmp 13), (.tmp 14)]⟩,
 ⟨some 7, none, .mov (.tmp 15)⟩] [(0, 4), (1, 4), (2, 4), (3, 4)])
 (.seq (.seq (.ops [⟨some 16, none, .mov (.tmp 7)⟩,
 ⟨some 17, none, .lnl (.tmp 16)⟩,
 ⟨some 18, none, .bin .eql (.tmp 17) (.const (.int .i64 0))⟩])
 (.cond (.tmp 18)
 (.seq (.draw [⟨some 19, none, .ld1 (.tmp 3)⟩,
 ⟨some 20, none, .ld1 (.tmp 4)⟩,
 ⟨some 21, none, .ld1 (.tmp 3)⟩,
 ⟨some 22, none, .ld1 (.tmp 4)⟩,
 ⟨some 23, none, .call (.func 55) [(.tmp 21), (.const (.int .i64 0)), (.tmp 22)]⟩,
 ⟨some 24, none, .call (.func 63) [(.tmp 19), (.const (.int .i32 30)), (.tmp 20), (.tmp 23)]⟩,
 ⟨some 6, none, .mov (.tmp 24)⟩] [(0, 1), (0, 2), (1, 2), (0, 3), (1, 3), (2, 3), (0, 4), (1, 4)])
 .ret)
 .skip))
 (.seq (.ops [⟨some 25, none, .ld1 (.tmp 3)⟩,
 ⟨some 26, none, .agg [(.int .i64 0), (.int .i64 0), (.int .i64 0), (.string ⟨#[]⟩), (.int .i32 0), (.int .i32 0)] [(0, 1, (.const (.int .i64 7)))]⟩,
 ⟨some 27, none, .ld1 (.tmp 4)⟩,
 ⟨some 28, none, .call (.func 54) [(.tmp 25), (.tmp 26), (.tmp 27), (.const (.slice none 0 0))]⟩,
 ⟨some 8, none, .newz [(.slice none 0 0)]⟩,
 ⟨none, none, .st 1 (.tmp 8) (.tmp 28)⟩])
 (.seq (.ops [⟨some 9, none, .newz [.nilFunc]⟩])
 (.seq (.ops [⟨some 29, none, .fn 64 [] [(.tmp 3), (.tmp 4), (.tmp 8), (.tmp 9)]⟩,
 ⟨none, none, .st 1 (.tmp 9) (.tmp 29)⟩])
 (.seq (.ops [⟨some 30, none, .ld1 (.tmp 9)⟩,
 ⟨some 31, none, .mov (.tmp 7)⟩,
 ⟨some 32, none, .mov (.tmp 2)⟩,
 ⟨some 33, none, .call (.tmp 30) [(.tmp 31), (.tmp 32)]⟩,
 ⟨some 6, none, .mov (.tmp 33)⟩])
 .ret)))))))⟩
theorem ok42 : compF Tryz.prog Tryz.f42 = some c42 := by kernel_rfl
def c43 : CF := ⟨55, [.tmp 6],
 (.seq (.ops [⟨some 6, none, .mov (.const (.slice none 0 0))⟩])
 (.seq (.ops [⟨some 8, none, .mov (.tmp 0)⟩,
 ⟨some 9, none, .mov (.tmp 0)⟩,
 ⟨some 10, none, .nilck (.tmp 9)⟩,
 ⟨some 11, none, .fad (.tmp 10) 0⟩,
 ⟨some 12, none, .ld1 (.tmp 11)⟩,
 ⟨some 13, none, .mov (.tmp 1)⟩,
 ⟨some 14, none, .call (.func 53) [(.tmp 12), (.tmp 13)]⟩,
 ⟨some 15, none, .mov (.tmp 2)⟩,
 ⟨some 16, none, .call (.func 61) [(.tmp 8), (.tmp 14), (.tmp 15)]⟩,
 ⟨some 7, none, .mov (.tmp 16)⟩])
 (.seq (.seq (.ops [⟨some 17, none, .mov (.tmp 0)⟩,
 ⟨some 18, none, .nilck (.tmp 17)⟩,
 ⟨some 19, none, .fad (.tmp 18) 0⟩,
 ⟨some 20, none, .ld1 (.tmp 19)⟩,
 ⟨some 21, none, .nilck (.tmp 20)⟩,
 ⟨some 22, none, .fad (.tmp 21) 0⟩,
 ⟨some 23, none, .ld1 (.tmp 22)⟩,
 ⟨some 24, none, .mov (.tmp 1)⟩,
 ⟨some 25, none, .iad 7 (.tmp 23) (.tmp 24)⟩,
 ⟨some 26, none, .fad (.tmp 25) 0⟩,
 ⟨some 27, none, .ld1 (.tmp 26)⟩,
 ⟨some 28, none, .bin .eql (.tmp 27) (.const (.int .i64 21))⟩])
 (.cond (.tmp 28)
 (.seq (.draw [⟨some 29, none, .mov (.tmp 0)⟩,
 ⟨some 30, none, .mov (.tmp 1)⟩,
 ⟨some 31, none, .mov (.tmp 7)⟩,
 ⟨some 32, none, .iad 1 (.tmp 31) (.const (.int .i64 0))⟩,
 ⟨some 33, none, .ld1 (.tmp 32)⟩,
 ⟨some 34, none, .mov (.tmp 0)⟩,
 ⟨some 35, none, .mov (.tmp 1)⟩,
 ⟨some 36, none, .call (.func 46) [(.tmp 34), (.tmp 35)]⟩,
 ⟨some 37, none, .mov (.tmp 7)⟩,
 ⟨some 38, none, .iad 1 (.tmp 37) (.const (.int .i64 1))⟩,
 ⟨some 39, none, .ld1 (.tmp 38)⟩,
 ⟨some 40, none, .lits [(.slice none 0 0), (.slice none 0 0), (.slice none 0 0)] 3 [(0, 1, (.tmp 33)), (1, 1, (.tmp 36)), (2, 1, (.tmp 39))]⟩,
 ⟨some 41, none, .call (.func 62) [(.tmp 29), (.const (.int .i32 20)), (.tmp 30), (.tmp 40)]⟩,
 ⟨some 6, none, .mov (.tmp 41)⟩] [(0, 1), (0, 2), (1, 2), (0, 3), (1, 3), (0, 4), (1, 4), (0, 5), (1, 5), (2, 5), (3, 5), (4, 5), (0, 6), (1, 6), (2, 6), (3, 6), (4, 6), (5, 6), (0, 7), (1, 7), (2, 7), (3, 7), (4, 7), (0, 8), (1, 8), (2, 8), (3, 8), (4, 8), (5, 8), (6, 8), (7, 8), (0, 9), (1, 9), (2, 9), (3, 9), (4, 9), (5, 9), (6, 9), (7, 9), (0, 10), (1, 10), (2, 10), (3, 10), (4, 10), (5, 10), (6, 10), (7, 10), (0, 11), (1, 11)])
 .ret)
 .skip))
 (.seq (.draw [⟨some 42, none, .mov (.tmp 0)⟩,
 ⟨some 43, none, .mov (.tmp 1)⟩,
 ⟨some 44, none, .mov (.tmp 7)⟩,
 ⟨some 45, none, .iad 1 (.tmp 44) (.const (.int .i64 0))⟩,
 ⟨some 46, none, .ld1 (.tmp 45)⟩,
 ⟨some 47, none, .mov (.tmp 7)⟩,
 ⟨some 48, none, .iad 1 (.tmp 47) (.const (.int .i64 1))⟩,
 ⟨some 49, none, .ld1 (.tmp 48)⟩,
 ⟨some 50, none, .mov (.tmp 0)⟩,
 ⟨some 51, none, .mov (.tmp 1)⟩,
 ⟨some 52, none, .call (.func 46) [(.tmp 50), (.tmp 51)]⟩,
 ⟨some 53, none, .lits [(.slice none 0 0), (.slice none 0 0), (.slice none 0 0)] 3 [(0, 1, (.tmp 46)), (1, 1, (.tmp 49)), (2, 1, (.tmp 52))]⟩,
 ⟨some 54, none, .call (.func 62) [(.tmp 42), (.const (.int .i32 19)), (.tmp 43), (.tmp 53)]⟩,
 ⟨some 6, none, .mov (.tmp 54)⟩] [(0, 1), (0, 2), (1, 2), (0, 3), (1, 3), (0, 4), (1, 4), (0, 5), (1, 5), (2, 5), (3, 5), (4, 5), (0, 6), (1, 6), (2, 6), (3, 6), (4, 6), (0, 7), (1, 7), (2, 7), (3, 7), (4, 7), (0, 8), (1, 8), (2, 8), (3, 8), (4, 8), (5, 8), (6, 8), (7, 8), (0, 9), (1, 9), (2, 9), (3, 9), (4, 9), (5, 9), (6, 9), (7, 9), (8, 9), (0, 10), (1, 10), (2, 10), (3, 10), (4, 10), (5, 10), (6, 10), (7, 10), (0, 11), (1, 11)])
 .ret))))⟩
theorem ok43 : compF Tryz.prog Tryz.f43 = some c43 := by kernel_rfl
def c44 : CF := ⟨18, [.tmp 6],
 (.seq (.ops [⟨some 3, none, .box (.tmp 0)⟩,
 ⟨some 4, none, .box (.tmp 1)⟩,
 ⟨some 6, none, .mov (.const (.slice none 0 0))⟩])
 (.seq (.ops [⟨some 7, none, .newz [.nilFunc]⟩])
 (.seq (.ops [⟨some 8, none, .fn 65 [] [(.tmp 3), (.tmp 4), (.tmp 7)]⟩,
 ⟨none, none, .st 1 (.tmp 7) (.tmp 8)⟩])
 (.seq (.draw [⟨some 9, none, .ld1 (.tmp 7)⟩,
 ⟨some 10, none, .ld1 (.tmp 3)⟩,
 ⟨some 11, none, .nilck (.tmp 10)⟩,
 ⟨some 12, none, .fad (.tmp 11) 0⟩,
 ⟨some 13, none, .ld1 (.tmp 12)⟩,
 ⟨some 14, none, .ld1 (.tmp 4)⟩,
 ⟨some 15, none, .call (.func 53) [(.tmp 13), (.tmp 14)]⟩,
 ⟨some 16, none, .mov (.tmp 2)⟩,
 ⟨some 17, none, .call (.tmp 9) [(.tmp 15), (.tmp 16)]⟩,
 ⟨some 6, none, .mov (.tmp 17)⟩] [(0, 1), (0, 2), (0, 3), (0, 4), (0, 5), (1, 5), (2, 5), (3, 5), (4, 5), (0, 6), (0, 7), (1, 7), (2, 7), (3, 7), (4, 7), (5, 7), (6, 7)])
 .ret))))⟩
theorem ok44 : compF Tryz.prog Tryz.f44 = some c44 := by kernel_rfl
def c45 : CF := ⟨46, [.tmp 6],
 (.seq (.ops [⟨some 6, none, .mov (.const (.slice none 0 0))⟩])
 (.seq (.ops [⟨some 10, none, .mov (.tmp 0)⟩,
 ⟨some 11, none, .mov (.tmp 0)⟩,
 ⟨some 12, none, .nilck (.tmp 11)⟩,
 ⟨some 13, none, .fad (.tmp 12) 0⟩,
 ⟨some 14, none, .ld1 (.tmp 13)⟩,
 ⟨some 15, none, .mov (.tmp 1)⟩,
 ⟨some 16, none, .call (.func 53) [(.tmp 14), (.tmp 15)]⟩,
 ⟨some 17, none, .mov (.tmp 2)⟩,
 ⟨some 18, none, .call (.func 61) [(.tmp 10), (.tmp 16), (.tmp 17)]⟩,
 ⟨some 7, none, .mov (.tmp 18)⟩])
 (.seq (.ops [⟨some 19, none, .mov (.tmp 0)⟩,
 ⟨some 20, none, .mov (.tmp 1)⟩,
 ⟨some 21, none, .mov (.tmp 0)⟩,
 ⟨some 22, none, .mov (.tmp 1)⟩,
 ⟨some 23, none, .call (.func 46) [(.tmp 21), (.tmp 22)]⟩,
 ⟨some 24, none, .call (.func 63) [(.tmp 19), (.const (.int .i32 32)), (.tmp 20), (.tmp 23)]⟩,
 ⟨some 8, none, .mov (.tmp 24)⟩])
 (.seq (.seq (.ops [⟨some 25, none, .mov (.tmp 7)⟩,
 ⟨some 26, none, .lnl (.tmp 25)⟩,
 ⟨some 27, none, .bin .sub (.tmp 26) (.const (.int .i64 1))⟩,
 ⟨some 9, none, .mov (.tmp 27)⟩])
 (.block 0 (.loop (.seq (.seq (.ops [⟨some 28, none, .mov (.tmp 9)⟩,
 ⟨some 29, none, .bin .geq (.tmp 28) (.const (.int .i64 0))⟩])
 (.cond (.tmp 29)
 .skip
 (.exit 0)))
 (.seq (.block 1 (.draw [⟨some 32, none, .mov (.tmp 0)⟩,
 ⟨some 33, none, .mov (.tmp 1)⟩,
 ⟨some 34, none, .mov (.tmp 0)⟩,
 ⟨some 35, none, .agg [(.int .i64 0), (.int .i64 0), (.int .i64 0), (.string ⟨#[]⟩), (.int .i32 0), (.int .i32 0)] [(0, 1, (.const (.int .i64 6))), (3, 1, (.const (.string ⟨#[99, 111, 110, 115]⟩)))]⟩,
 ⟨some 36, none, .mov (.tmp 1)⟩,
 ⟨some 37, none, .call (.func 54) [(.tmp 34), (.tmp 35), (.tmp 36), (.const (.slice none 0 0))]⟩,
 ⟨some 38, none, .mov (.tmp 7)⟩,
 ⟨some 39, none, .mov (.tmp 9)⟩,
 ⟨some 40, none, .iad 1 (.tmp 38) (.tmp 39)⟩,
 ⟨some 41, none, .ld1 (.tmp 40)⟩,
 ⟨some 42, none, .mov (.tmp 8)⟩,
 ⟨some 43, none, .lits [(.slice none 0 0), (.slice none 0 0), (.slice none 0 0)] 3 [(0, 1, (.tmp 37)), (1, 1, (.tmp 41)), (2, 1, (.tmp 42))]⟩,
 ⟨some 44, none, .call (.func 60) [(.tmp 32), (.const (.int .i32 25)), (.tmp 33), (.tmp 43)]⟩,
 ⟨some 8, none, .mov (.tmp 44)⟩] [(0, 1), (0, 2), (1, 2), (0, 3), (1, 3), (2, 3), (0, 4), (1, 4), (2, 4), (3, 4), (0, 5), (1, 5), (0, 6), (1, 6), (2, 6), (3, 6), (4, 6), (5, 6), (0, 7), (1, 7), (2, 7), (3, 7), (4, 7), (5, 7), (6, 7), (0, 8), (1, 8), (2, 8), (3, 8), (4, 8), (5, 8), (0, 9), (1, 9), (2, 9), (3, 9), (4, 9), (5, 9), (0, 10), (1, 10), (2, 10), (3, 10), (4, 10), (5, 10), (6, 10), (7, 10), (8, 10), (9, 10), (0, 11), (1, 11)]))
 (.ops [⟨some 30, none, .mov (.tmp 9)⟩,
 ⟨some 31, none, .bin .sub (.tmp 30) (.const (.int .i64 1))⟩,
 ⟨some 9, none, .mov (.tmp 31)⟩]))))))
 (.seq (.ops [⟨some 45, none, .mov (.tmp 8)⟩,
 ⟨some 6, none, .mov (.tmp 45)⟩])
 .ret)))))⟩
theorem ok45 : compF Tryz.prog Tryz.f45 = some c45 := by kernel_rfl
def c46 : CF := ⟨9, [.tmp 4],
 (.seq (.ops [⟨some 4, none, .mov (.const (.slice none 0 0))⟩])
 (.seq (.ops [⟨some 5, none, .mov (.tmp 0)⟩,
 ⟨some 6, none, .agg [(.int .i64 0), (.int .i64 0), (.int .i64 0), (.string ⟨#[]⟩), (.int .i32 0), (.int .i32 0)] [(0, 1, (.const (.int .i64 4)))]⟩,
 ⟨some 7, none, .mov (.tmp 1)⟩,
 ⟨some 8, none, .call (.func 54) [(.tmp 5), (.tmp 6), (.tmp 7), (.const (.slice none 0 0))]⟩,
 ⟨some 4, none, .mov (.tmp 8)⟩])
 .ret))⟩
theorem ok46 : compF Tryz.prog Tryz.f46 = some c46 := by kernel_rfl
def c47 : CF := ⟨66, [.tmp 2],
 (.seq (.ops [⟨some 1, none, .box (.tmp 0)⟩,
 ⟨some 2, none, .mov (.const (.int .i64 0))⟩])
 (.seq (.ops [⟨some 3, none, .mov (.const (.bool false))⟩,
 ⟨some 4, none, .mov (.const (.bool false))⟩,
 ⟨some 5, none, .mov (.const (.bool false))⟩,
 ⟨some 6, none, .mov (.const (.int .i64 0))⟩,
 ⟨some 7, none, .mov (.const (.int .i64 0))⟩])
 (.seq (.seq (.ops [⟨some 8, none, .fad (.tmp 1) 0⟩,
 ⟨some 9, none, .ld1 (.tmp 8)⟩])
 (.block 0 (.seq (.seq (.ops [⟨some 11, none, .bin .eql (.tmp 9) (.const (.int .i64 1))⟩,
 ⟨some 10, none, .mov (.tmp 11)⟩])
 (.cond (.tmp 10)
 .skip
 (.seq (.ops [⟨some 12, none, .bin .eql (.tmp 9) (.const (.int .i64 2))⟩,
 ⟨some 10, none, .mov (.tmp 12)⟩])
 (.cond (.tmp 10)
 .skip
 (.seq (.ops [⟨some 13, none, .bin .eql (.tmp 9) (.const (.int .i64 7))⟩,
 ⟨some 10, none, .mov (.tmp 13)⟩])
 (.cond (.tmp 10)
 .skip
 (.ops [⟨some 14, none, .bin .eql (.tmp 9) (.const (.int .i64 12))⟩,
 ⟨some 10, none, .mov (.tmp 14)⟩])))))))
 (.cond (.tmp 10)
 (.ops [⟨some 3, none, .mov (.const (.bool true))⟩])
 (.seq (.seq (.ops [⟨some 16, none, .bin .eql (.tmp 9) (.const (.int .i64 3))⟩,
 ⟨some 15, none, .mov (.tmp 16)⟩])
 (.cond (.tmp 15)
 .skip
 (.ops [⟨some 17, none, .bin .eql (.tmp 9) (.const (.int .i64 6))⟩,
 ⟨some 15, none, .mov (.tmp 17)⟩])))
 (.cond (.tmp 15)
 (.ops [⟨some 4, none, .mov (.const (.bool true))⟩])
 (.seq (.ops [⟨some 19, none, .bin .eql (.tmp 9) (.const (.int .i64 5))⟩,
 ⟨some 18, none, .mov (.tmp 19)⟩])
 (.cond (.tmp 18)
 (.ops [⟨some 6, none, .mov (.const (.int .i64 2))⟩,
 ⟨some 7, none, .mov (.const (.int .i64 2))⟩])
 (.seq (.seq (.ops [⟨some 21, none, .bin .eql (.tmp 9) (.const (.int .i64 8))⟩,
 ⟨some 20, none, .mov (.tmp 21)⟩])
 (.cond (.tmp 20)
 .skip
 (.ops [⟨some 22, none, .bin .eql (.tmp 9) (.const (.int .i64 11))⟩,
 ⟨some 20, none, .mov (.tmp 22)⟩])))
 (.cond (.tmp 20)
 (.draw [⟨some 23, none, .fad (.tmp 1) 1⟩,
 ⟨some 24, none, .ld1 (.tmp 23)⟩,
 ⟨some 3, none, .mov (.const (.bool true))⟩,
 ⟨some 5, none, .mov (.const (.bool true))⟩,
 ⟨some 7, none, .mov (.tmp 24)⟩] [(0, 2), (1, 2), (0, 3), (1, 3)])
 (.seq (.ops [⟨some 26, none, .bin .eql (.tmp 9) (.const (.int .i64 9))⟩,
 ⟨some 25, none, .mov (.tmp 26)⟩])
 (.cond (.tmp 25)
 (.ops [⟨some 5, none, .mov (.const (.bool true))⟩,
 ⟨some 6, none, .mov (.const (.int .i64 1))⟩,
 ⟨some 7, none, .mov (.const (.int .i64 9))⟩])
 (.seq (.ops [⟨some 28, none, .bin .eql (.tmp 9) (.const (.int .i64 10))⟩,
 ⟨some 27, none, .mov (.tmp 28)⟩])
 (.cond (.tmp 27)
 (.ops [⟨some 5, none, .mov (.const (.bool true))⟩,
 ⟨some 6, none, .mov (.const (.int .i64 3))⟩,
 ⟨some 7, none, .mov (.const (.int .i64 3))⟩])
 .skip))))))))))))))
 (.seq (.seq (.ops [⟨some 29, none, .mov (.tmp 3)⟩,
 ⟨some 30, none, .un .not (.tmp 29)⟩,
 ⟨some 31, none, .mov (.tmp 30)⟩,
 ⟨some 32, (some (31, true)), .fad (.tmp 1) 2⟩,
 ⟨some 33, (some (31, true)), .ld1 (.tmp 32)⟩,
 ⟨some 34, (some (31, true)), .bin .neq (.tmp 33) (.const (.int .i64 0))⟩,
 ⟨some 35, none, .pick (.tmp 31) (.tmp 34) (.const (.bool false))⟩,
 ⟨some 36, none, .mov (.tmp 35)⟩,
 ⟨some 37, (some (36, false)), .mov (.tmp 4)⟩,
 ⟨some 38, (some (36, false)), .un .not (.tmp 37)⟩,
 ⟨some 39, (some (36, false)), .mov (.tmp 38)⟩,
 ⟨some 40, (some (39, true)), .fad (.tmp 1) 3⟩,
 ⟨some 41, (some (39, true)), .ld1 (.tmp 40)⟩,
 ⟨some 42, (some (39, true)), .bin .neq (.tmp 41) (.const (.string ⟨#[]⟩))⟩,
 ⟨some 43, (some (36, false)), .pick (.tmp 39) (.tmp 42) (.const (.bool false))⟩,
 ⟨some 44, none, .pick (.tmp 36) (.const (.bool true)) (.tmp 43)⟩,
 ⟨some 45, none, .mov (.tmp 44)⟩,
 ⟨some 46, (some (45, false)), .mov (.tmp 5)⟩,
 ⟨some 47, (some (45, false)), .un .not (.tmp 46)⟩,
 ⟨some 48, (some (45, false)), .mov (.tmp 47)⟩,
 ⟨some 49, (some (48, true)), .fad (.tmp 1) 4⟩,
 ⟨some 50, (some (48, true)), .ld1 (.tmp 49)⟩,
 ⟨some 51, (some (48, true)), .bin .neq (.tmp 50) (.const (.int .i32 0))⟩,
 ⟨some 52, (some (45, false)), .pick (.tmp 48) (.tmp 51) (.const (.bool false))⟩,
 ⟨some 53, none, .pick (.tmp 45) (.const (.bool true)) (.tmp 52)⟩,
 ⟨some 54, none, .mov (.tmp 53)⟩,
 ⟨some 55, (some (54, false)), .fad (.tmp 1) 1⟩,
 ⟨some 56, (some (54, false)), .ld1 (.tmp 55)⟩,
 ⟨some 57, (some (54, false)), .mov (.tmp 6)⟩,
 ⟨some 58, (some (54, false)), .bin .lss (.tmp 56) (.tmp 57)⟩,
 ⟨some 59, none, .pick (.tmp 54) (.const (.bool true)) (.tmp 58)⟩,
 ⟨some 60, none, .mov (.tmp 59)⟩,
 ⟨some 61, (some (60, false)), .fad (.tmp 1) 1⟩,
 ⟨some 62, (some (60, false)), .ld1 (.tmp 61)⟩,
 ⟨some 63, (some (60, false)), .mov (.tmp 7)⟩,
 ⟨some 64, (some (60, false)), .bin .gtr (.tmp 62) (.tmp 63)⟩,
 ⟨some 65, none, .pick (.tmp 60) (.const (.bool true)) (.tmp 64)⟩])
 (.cond (.tmp 65)
 (.seq (.ops [⟨some 2, none, .mov (.const (.int .i64 6))⟩])
 .ret)
 .skip))
 (.seq (.ops [⟨some 2, none, .mov (.const (.int .i64 0))⟩])
 .ret)))))⟩
theorem ok47 : compF Tryz.prog Tryz.f47 = some c47 := by kernel_rfl
def c48 : CF := ⟨76, [.tmp 4],
 (.seq (.ops [⟨some 2, none, .box (.tmp 0)⟩,
 ⟨some 4, none, .mov (.const (.int .i64 0))⟩])
 (.seq (.ops [⟨some 5, none, .mov (.const (.int .i64 0))⟩,
 ⟨some 6, none, .mov (.const (.int .i64 0))⟩])
 (.seq (.seq (.ops [⟨some 9, none, .fad (.tmp 2) 0⟩,
 ⟨some 10, none, .ld1 (.tmp 9)⟩])
 (.block 0 (.seq (.block 5 (.seq (.block 4 (.seq (.block 3 (.seq (.block 2 (.seq (.block 1 (.seq (.seq (.seq (.ops [⟨some 12, none, .bin .eql (.tmp 10) (.const (.int .i64 1))⟩,
 ⟨some 11, none, .mov (.tmp 12)⟩])
 (.cond (.tmp 11)
 (.exit 1)
 .skip))
 (.seq (.seq (.ops [⟨some 14, none, .bin .eql (.tmp 10) (.const (.int .i64 2))⟩,
 ⟨some 13, none, .mov (.tmp 14)⟩])
 (.cond (.tmp 13)
 (.exit 2)
 .skip))
 (.seq (.seq (.seq (.ops [⟨some 16, none, .bin .eql (.tmp 10) (.const (.int .i64 7))⟩,
 ⟨some 15, none, .mov (.tmp 16)⟩])
 (.cond (.tmp 15)
 .skip
 (.ops [⟨some 17, none, .bin .eql (.tmp 10) (.const (.int .i64 12))⟩,
 ⟨some 15, none, .mov (.tmp 17)⟩])))
 (.cond (.tmp 15)
 (.exit 3)
 .skip))
 (.seq (.seq (.ops [⟨some 19, none, .bin .eql (.tmp 10) (.const (.int .i64 11))⟩,
 ⟨some 18, none, .mov (.tmp 19)⟩])
 (.cond (.tmp 18)
 (.exit 4)
 .skip))
 (.seq (.ops [⟨some 21, none, .bin .eql (.tmp 10) (.const (.int .i64 8))⟩,
 ⟨some 20, none, .mov (.tmp 21)⟩])
 (.cond (.tmp 20)
 (.exit 5)
 .skip))))))
 (.exit 0)))
 (.seq (.draw [⟨some 22, none, .fad (.tmp 2) 2⟩,
 ⟨some 23, none, .ld1 (.tmp 22)⟩,
 ⟨some 24, none, .fad (.tmp 2) 2⟩,
 ⟨some 25, none, .ld1 (.tmp 24)⟩,
 ⟨some 5, none, .mov (.tmp 23)⟩,
 ⟨some 6, none, .mov (.tmp 25)⟩] [(0, 2), (1, 2), (0, 3), (1, 3), (2, 4), (3, 4)])
 (.exit 0))))
 (.seq (.ops [⟨some 6, none, .mov (.const (.int .i64 1))⟩])
 (.exit 0))))
 (.seq (.ops [⟨some 6, none, .mov (.const (.int .i64 1000000))⟩])
 (.exit 0))))
 (.ops [⟨some 5, none, .mov (.const (.int .i64 1))⟩])))
 (.seq (.ops [⟨some 6, none, .mov (.const (.int .i64 8))⟩])
 (.exit 0)))))
 (.seq (.seq (.ops [⟨some 26, none, .fad (.tmp 2) 2⟩,
 ⟨some 27, none, .ld1 (.tmp 26)⟩,
 ⟨some 28, none, .mov (.tmp 5)⟩,
 ⟨some 29, none, .bin .lss (.tmp 27) (.tmp 28)⟩,
 ⟨some 30, none, .mov (.tmp 29)⟩,
 ⟨some 31, (some (30, false)), .fad (.tmp 2) 2⟩,
 ⟨some 32, (some (30, false)), .ld1 (.tmp 31)⟩,
 ⟨some 33, (some (30, false)), .mov (.tmp 6)⟩,
 ⟨some 34, (some (30, false)), .bin .gtr (.tmp 32) (.tmp 33)⟩,
 ⟨some 35, none, .pick (.tmp 30) (.const (.bool true)) (.tmp 34)⟩,
 ⟨some 36, none, .mov (.tmp 35)⟩,
 ⟨some 37, (some (36, false)), .fad (.tmp 2) 4⟩,
 ⟨some 38, (some (36, false)), .ld1 (.tmp 37)⟩,
 ⟨some 39, (some (36, false)), .bin .lss (.tmp 38) (.const (.int .i32 0))⟩,
 ⟨some 40, none, .pick (.tmp 36) (.const (.bool true)) (.tmp 39)⟩,
 ⟨some 41, none, .mov (.tmp 40)⟩,
 ⟨some 42, (some (41, false)), .fad (.tmp 2) 4⟩,
 ⟨some 43, (some (41, false)), .ld1 (.tmp 42)⟩,
 ⟨some 44, (some (41, false)), .bin .gtr (.tmp 43) (.const (.int .i32 99))⟩,
 ⟨some 45, none, .pick (.tmp 41) (.const (.bool true)) (.tmp 44)⟩,
 ⟨some 46, none, .mov (.tmp 45)⟩,
 ⟨some 47, (some (46, false)), .fad (.tmp 2) 5⟩,
 ⟨some 48, (some (46, false)), .ld1 (.tmp 47)⟩,
 ⟨some 49, (some (46, false)), .bin .lss (.tmp 48) (.const (.int .i32 0))⟩,
 ⟨some 50, none, .pick (.tmp 46) (.const (.bool true)) (.tmp 49)⟩])
 (.cond (.tmp 50)
 (.seq (.ops [⟨some 4, none, .mov (.const (.int .i64 7))⟩])
 .ret)
 .skip))
 (.seq (.ops [⟨some 52, none, .ld 6 (.tmp 2)⟩,
 ⟨some 53, none, .mov (.tmp 1)⟩,
 ⟨some 54, none, .call (.func 66) [(.tmp 52), (.tmp 53)]⟩,
 ⟨some 51, none, .mov (.tmp 54)⟩,
 ⟨some 55, none, .ext (.tmp 51) 0⟩,
 ⟨some 56, none, .ext (.tmp 51) 1⟩,
 ⟨some 7, none, .mov (.tmp 55)⟩,
 ⟨some 8, none, .mov (.tmp 56)⟩])
 (.seq (.seq (.ops [⟨some 57, none, .fad (.tmp 2) 0⟩,
 ⟨some 58, none, .ld1 (.tmp 57)⟩])
 (.block 6 (.seq (.seq (.ops [⟨some 60, none, .bin .eql (.tmp 58) (.const (.int .i64 3))⟩,
 ⟨some 59, none, .mov (.tmp 60)⟩])
 (.cond (.tmp 59)
 .skip
 (.ops [⟨some 61, none, .bin .eql (.tmp 58) (.const (.int .i64 6))⟩,
 ⟨some 59, none, .mov (.tmp 61)⟩])))
 (.cond (.tmp 59)
 (.seq (.ops [⟨some 62, none, .fad (.tmp 2) 3⟩,
 ⟨some 63, none, .ld1 (.tmp 62)⟩,
 ⟨some 64, none, .call (.func 67) [(.tmp 63)]⟩,
 ⟨some 65, none, .un .not (.tmp 64)⟩])
 (.cond (.tmp 65)
 (.seq (.ops [⟨some 4, none, .mov (.const (.int .i64 6))⟩])
 .ret)
 .skip))
 (.seq (.seq (.ops [⟨some 67, none, .bin .eql (.tmp 58) (.const (.int .i64 8))⟩,
 ⟨some 66, none, .mov (.tmp 67)⟩])
 (.cond (.tmp 66)
 .skip
 (.ops [⟨some 68, none, .bin .eql (.tmp 58) (.const (.int .i64 11))⟩,
 ⟨some 66, none, .mov (.tmp 68)⟩])))
 (.cond (.tmp 66)
 (.seq (.ops [⟨some 69, none, .fad (.tmp 2) 1⟩,
 ⟨some 70, none, .ld1 (.tmp 69)⟩,
 ⟨some 71, none, .mov (.tmp 7)⟩,
 ⟨some 72, none, .mov (.tmp 8)⟩,
 ⟨some 73, none, .bin .add (.tmp 71) (.tmp 72)⟩,
 ⟨some 74, none, .bin .add (.tmp 73) (.const (.int .i64 1))⟩,
 ⟨some 75, none, .bin .neq (.tmp 70) (.tmp 74)⟩])
 (.cond (.tmp 75)
 (.seq (.ops [⟨some 4, none, .mov (.const (.int .i64 6))⟩])
 .ret)
 .skip))
 .skip))))))
 (.seq (.ops [⟨some 4, none, .mov (.const (.int .i64 0))⟩])
 .ret)))))))⟩
theorem ok48 : compF Tryz.prog Tryz.f48 = some c48 := by kernel_rfl
def c49 : CF := ⟨25, [.tmp 2],
 (.seq (.ops [⟨some 2, none, .mov (.const (.int .i64 0))⟩])
 (.seq (.seq (.ops [⟨some 5, none, .mov (.tmp 0)⟩,
 ⟨some 6, none, .lnl (.tmp 5)⟩,
 ⟨some 7, none, .bin .lss (.tmp 6) (.const (.int .i64 1))⟩])
 (.cond (.tmp 7)
 (.ops [⟨some 8, none, .ifc 9 (.const (.string ⟨#[115, 108, 105, 99, 101, 115, 46, 77, 97, 120, 58, 32, 101, 109, 112, 116, 121, 32, 108, 105, 115, 116]⟩))⟩,
 ⟨none, none, .bad⟩])
 .skip))
 (.seq (.ops [⟨some 9, none, .mov (.tmp 0)⟩,
 ⟨some 10, none, .iad 1 (.tmp 9) (.const (.int .i64 0))⟩,
 ⟨some 11, none, .ld1 (.tmp 10)⟩,
 ⟨some 3, none, .mov (.tmp 11)⟩])
 (.seq (.seq (.ops [⟨some 4, none, .mov (.const (.int .i64 1))⟩])
 (.block 0 (.loop (.seq (.seq (.ops [⟨some 12, none, .mov (.tmp 4)⟩,
 ⟨some 13, none, .mov (.tmp 0)⟩,
 ⟨some 14, none, .lnl (.tmp 13)⟩,
 ⟨some 15, none, .bin .lss (.tmp 12) (.tmp 14)⟩])
 (.cond (.tmp 15)
 .skip
 (.exit 0)))
 (.seq (.block 1 (.ops [⟨some 18, none, .mov (.tmp 3)⟩,
 ⟨some 19, none, .mov (.tmp 0)⟩,
 ⟨some 20, none, .mov (.tmp 4)⟩,
 ⟨some 21, none, .iad 1 (.tmp 19) (.tmp 20)⟩,
 ⟨some 22, none, .ld1 (.tmp 21)⟩,
 ⟨some 23, none, .mnx true [(.tmp 18), (.tmp 22)]⟩,
 ⟨some 3, none, .mov (.tmp 23)⟩]))
 (.ops [⟨some 16, none, .mov (.tmp 4)⟩,
 ⟨some 17, none, .bin .add (.tmp 16) (.const (.int .i64 1))⟩,
 ⟨some 4, none, .mov (.tmp 17)⟩]))))))
 (.seq (.ops [⟨some 24, none, .mov (.tmp 3)⟩,
 ⟨some 2, none, .mov (.tmp 24)⟩])
 .ret)))))⟩
theorem ok49 : compF Tryz.prog Tryz.f49 = some c49 := by kernel_rfl
def c50 : CF := ⟨12, [.tmp 2],
 (.seq (.ops [⟨some 1, none, .box (.tmp 0)⟩,
 ⟨some 2, none, .mov (.const (.slice none 0 0))⟩])
 (.seq (.ops [⟨some 5, none, .ld1 (.tmp 1)⟩,
 ⟨some 6, none, .lnl (.tmp 5)⟩,
 ⟨some 7, none, .mks 8 [(.int .i64 0)] (.tmp 6) (.tmp 6)⟩,
 ⟨some 3, none, .newz [(.slice none 0 0)]⟩,
 ⟨none, none, .st 1 (.tmp 3) (.tmp 7)⟩])
 (.seq (.ops [⟨some 4, none, .newz [.nilFunc]⟩])
 (.seq (.ops [⟨some 8, none, .fn 68 [] [(.tmp 1), (.tmp 4), (.tmp 3)]⟩,
 ⟨none, none, .st 1 (.tmp 4) (.tmp 8)⟩])
 (.seq (.ops [⟨some 9, none, .ld1 (.tmp 4)⟩,
 ⟨some 10, none, .call (.tmp 9) [(.const (.int .i64 0))]⟩])
 (.seq (.ops [⟨some 11, none, .ld1 (.tmp 3)⟩,
 ⟨some 2, none, .mov (.tmp 11)⟩])
 .ret))))))⟩
theorem ok50 : compF Tryz.prog Tryz.f50 = some c50 := by kernel_rfl
def c51 : CF := ⟨99, [.tmp 8],
 (.seq (.ops [⟨some 8, none, .mov (.const (.int .i64 0))⟩])
 (.seq (.ops [⟨some 17, none, .mov (.tmp 0)⟩,
 ⟨some 18, none, .mov (.tmp 2)⟩,
 ⟨some 19, none, .iad 6 (.tmp 17) (.tmp 18)⟩,
 ⟨some 20, none, .ld 6 (.tmp 19)⟩,
 ⟨some 21, none, .mov (.tmp 3)⟩,
 ⟨some 22, none, .call (.func 66) [(.tmp 20), (.tmp 21)]⟩,
 ⟨some 16, none, .mov (.tmp 22)⟩,
 ⟨some 23, none, .ext (.tmp 16) 0⟩,
 ⟨some 24, none, .ext (.tmp 16) 1⟩,
 ⟨some 9, none, .mov (.tmp 23)⟩,
 ⟨some 10, none, .mov (.tmp 24)⟩])
 (.seq (.seq (.ops [⟨some 25, none, .mov (.tmp 0)⟩,
 ⟨some 26, none, .mov (.tmp 2)⟩,
 ⟨some 27, none, .iad 6 (.tmp 25) (.tmp 26)⟩,
 ⟨some 28, none, .fad (.tmp 27) 1⟩,
 ⟨some 29, none, .ld1 (.tmp 28)⟩,
 ⟨some 30, none, .bin .eql (.tmp 29) (.const (.int .i64 0))⟩])
 (.cond (.tmp 30)
 (.seq (.ops [⟨some 8, none, .mov (.const (.int .i64 0))⟩])
 .ret)
 .skip))
 (.seq (.ops [⟨some 11, none, .mov (.const (.map none))⟩])
 (.seq (.seq (.ops [⟨some 31, none, .mov (.tmp 9)⟩,
 ⟨some 32, none, .bin .gtr (.tmp 31) (.const (.int .i64 0))⟩])
 (.cond (.tmp 32)
 (.ops [⟨some 33, none, .mkm⟩,
 ⟨some 11, none, .mov (.tmp 33)⟩])
 .skip))
 (.seq (.ops [⟨some 12, none, .mov (.const (.bool false))⟩])
 (.seq (.seq (.ops [⟨some 34, none, .mov (.tmp 0)⟩,
 ⟨some 35, none, .mov (.tmp 1)⟩,
 ⟨some 36, none, .mov (.tmp 2)⟩,
 ⟨some 37, none, .call (.func 69) [(.tmp 34), (.tmp 35), (.tmp 36)]⟩,
 ⟨some 38, none, .lnl (.tmp 37)⟩,
 ⟨some 39, none, .mov (.const (.int .i64 0))⟩])
 (.block 0 (.loop (.seq (.ops [⟨some 40, none, .bin .lss (.tmp 39) (.tmp 38)⟩])
 (.seq (.cond (.tmp 40)
 .skip
 (.exit 0))
 (.seq (.block 1 (.seq (.ops [⟨some 41, none, .mov (.tmp 39)⟩,
 ⟨some 42, none, .iad 1 (.tmp 37) (.tmp 39)⟩,
 ⟨some 43, none, .ld1 (.tmp 42)⟩,
 ⟨some 13, none, .mov (.tmp 41)⟩,
 ⟨some 14, none, .mov (.tmp 43)⟩])
 (.seq (.ops [⟨some 44, none, .mov (.tmp 0)⟩,
 ⟨some 45, none, .mov (.tmp 14)⟩,
 ⟨some 46, none, .iad 6 (.tmp 44) (.tmp 45)⟩,
 ⟨some 47, none, .ld 6 (.tmp 46)⟩,
 ⟨some 15, none, .newz [(.int .i64 0), (.int .i64 0), (.int .i64 0), (.string ⟨#[]⟩), (.int .i32 0), (.int .i32 0)]⟩,
 ⟨none, none, .st 6 (.tmp 15) (.tmp 47)⟩])
 (.block 2 (.seq (.seq (.ops [⟨some 49, none, .fad (.tmp 15) 0⟩,
 ⟨some 50, none, .ld1 (.tmp 49)⟩,
 ⟨some 51, none, .bin .eql (.tmp 50) (.const (.int .i64 12))⟩,
 ⟨some 52, none, .mov (.tmp 13)⟩,
 ⟨some 53, none, .mov (.tmp 9)⟩,
 ⟨some 54, none, .bin .lss (.tmp 52) (.tmp 53)⟩,
 ⟨some 55, none, .eqb true (.tmp 51) (.tmp 54)⟩,
 ⟨some 48, none, .mov (.tmp 55)⟩])
 (.cond (.tmp 48)
 .skip
 (.seq (.ops [⟨some 56, none, .mov (.tmp 13)⟩,
 ⟨some 57, none, .mov (.tmp 9)⟩,
 ⟨some 58, none, .bin .geq (.tmp 56) (.tmp 57)⟩,
 ⟨some 59, none, .mov (.tmp 58)⟩,
 ⟨some 60, (some (59, true)), .mov (.tmp 13)⟩,
 ⟨some 61, (some (59, true)), .mov (.tmp 9)⟩,
 ⟨some 62, (some (59, true)), .mov (.tmp 10)⟩,
 ⟨some 63, (some (59, true)), .bin .add (.tmp 61) (.tmp 62)⟩,
 ⟨some 64, (some (59, true)), .bin .lss (.tmp 60) (.tmp 63)⟩,
 ⟨some 65, none, .pick (.tmp 59) (.tmp 64) (.const (.bool false))⟩,
 ⟨some 66, none, .mov (.tmp 65)⟩,
 ⟨some 67, (some (66, true)), .fad (.tmp 15) 0⟩,
 ⟨some 68, (some (66, true)), .ld1 (.tmp 67)⟩,
 ⟨some 69, (some (66, true)), .bin .neq (.tmp 68) (.const (.int .i64 8))⟩,
 ⟨some 70, none, .pick (.tmp 66) (.tmp 69) (.const (.bool false))⟩,
 ⟨some 48, none, .mov (.tmp 70)⟩])
 (.cond (.tmp 48)
 .skip
 (.ops [⟨some 71, none, .mov (.tmp 0)⟩,
 ⟨some 72, none, .mov (.tmp 2)⟩,
 ⟨some 73, none, .iad 6 (.tmp 71) (.tmp 72)⟩,
 ⟨some 74, none, .fad (.tmp 73) 0⟩,
 ⟨some 75, none, .ld1 (.tmp 74)⟩,
 ⟨some 76, none, .bin .eql (.tmp 75) (.const (.int .i64 5))⟩,
 ⟨some 77, none, .mov (.tmp 76)⟩,
 ⟨some 78, (some (77, true)), .fad (.tmp 15) 0⟩,
 ⟨some 79, (some (77, true)), .ld1 (.tmp 78)⟩,
 ⟨some 80, (some (77, true)), .call (.func 70) [(.tmp 79)]⟩,
 ⟨some 81, (some (77, true)), .un .not (.tmp 80)⟩,
 ⟨some 82, none, .pick (.tmp 77) (.tmp 81) (.const (.bool false))⟩,
 ⟨some 48, none, .mov (.tmp 82)⟩])))))
 (.cond (.tmp 48)
 (.seq (.ops [⟨some 8, none, .mov (.const (.int .i64 6))⟩])
 .ret)
 (.seq (.ops [⟨some 84, none, .mov (.tmp 13)⟩,
 ⟨some 85, none, .mov (.tmp 9)⟩,
 ⟨some 86, none, .bin .lss (.tmp 84) (.tmp 85)⟩,
 ⟨some 83, none, .mov (.tmp 86)⟩])
 (.cond (.tmp 83)
 (.seq (.ops [⟨some 87, none, .mov (.tmp 12)⟩,
 ⟨some 88, none, .mov (.tmp 87)⟩,
 ⟨some 89, (some (88, false)), .mov (.tmp 11)⟩,
 ⟨some 90, (some (88, false)), .fad (.tmp 15) 2⟩,
 ⟨some 91, (some (88, false)), .ld1 (.tmp 90)⟩,
 ⟨some 92, (some (88, false)), .lkp (.int .i64) (.bool false) (.tmp 89) (.tmp 91) false⟩,
 ⟨some 93, none, .pick (.tmp 88) (.const (.bool true)) (.tmp 92)⟩,
 ⟨some 12, none, .mov (.tmp 93)⟩])
 (.ops [⟨some 94, none, .mov (.tmp 11)⟩,
 ⟨some 95, none, .fad (.tmp 15) 2⟩,
 ⟨some 96, none, .ld1 (.tmp 95)⟩,
 ⟨none, none, .mup (.int .i64) (.tmp 94) (.tmp 96) (.const (.bool true))⟩]))
 .skip))))))))
 (.ops [⟨some 97, none, .bin .add (.tmp 39) (.const (.int .i64 1))⟩,
 ⟨some 39, none, .mov (.tmp 97)⟩])))))))
 (.seq (.seq (.ops [⟨some 98, none, .mov (.tmp 12)⟩])
 (.cond (.tmp 98)
 (.seq (.ops [⟨some 8, none, .mov (.const (.int .i64 8))⟩])
 .ret)
 .skip))
 (.seq (.ops [⟨some 8, none, .mov (.const (.int .i64 0))⟩])
 .ret)))))))))⟩
theorem ok51 : compF Tryz.prog Tryz.f51 = some c51 := by kernel_rfl
def c52 : CF := ⟨75, [.tmp 2, .tmp 3, .tmp 4],
 (.seq (.ops [⟨some 2, none, .mov (.const (.pointer none))⟩,
 ⟨some 3, none, .mov (.const (.int .i64 0))⟩,
 ⟨some 4, none, .mov (.const (.int .i64 0))⟩])
 (.seq (.block 0 (.seq (.ops [⟨some 12, none, .mov (.tmp 0)⟩,
 ⟨some 13, none, .lnl (.tmp 12)⟩,
 ⟨some 14, none, .bin .eql (.tmp 13) (.const (.int .i64 0))⟩,
 ⟨some 11, none, .mov (.tmp 14)⟩])
 (.cond (.tmp 11)
 (.seq (.ops [⟨some 2, none, .mov (.const (.pointer none))⟩,
 ⟨some 3, none, .mov (.const (.int .i64 0))⟩,
 ⟨some 4, none, .mov (.const (.int .i64 6))⟩])
 .ret)
 (.seq (.ops [⟨some 16, none, .mov (.tmp 0)⟩,
 ⟨some 17, none, .lnl (.tmp 16)⟩,
 ⟨some 18, none, .bin .gtr (.tmp 17) (.const (.int .i64 2000))⟩,
 ⟨some 15, none, .mov (.tmp 18)⟩])
 (.cond (.tmp 15)
 (.seq (.ops [⟨some 2, none, .mov (.const (.pointer none))⟩,
 ⟨some 3, none, .mov (.const (.int .i64 0))⟩,
 ⟨some 4, none, .mov (.const (.int .i64 3))⟩])
 .ret)
 .skip)))))
 (.seq (.ops [⟨some 19, none, .mov (.tmp 0)⟩,
 ⟨some 20, none, .call (.func 71) []⟩,
 ⟨some 21, none, .mkm⟩,
 ⟨some 22, none, .agg [(.slice none 0 0), (.slice none 0 0), (.int .i64 0), (.int .i64 0), (.int .i64 0), (.int .i64 0), (.slice none 0 0), (.int .i64 0), (.int .i64 0), (.int .i64 0), (.int .i64 0), (.slice none 0 0), (.int .i64 0), (.int .i64 0), (.int .i64 0), (.int .i64 0), (.slice none 0 0), (.int .i64 0), (.int .i64 0), (.int .i64 0), (.int .i64 0), (.slice none 0 0), (.int .i64 0), (.int .i64 0), (.int .i64 0), (.int .i64 0), (.slice none 0 0), (.int .i64 0), (.int .i64 0), (.int .i64 0), (.int .i64 0), (.slice none 0 0), (.int .i64 0), (.int .i64 0), (.int .i64 0), (.int .i64 0), (.slice none 0 0), (.int .i64 0), (.int .i64 0), (.int .i64 0), (.int .i64 0), (.slice none 0 0), (.int .i64 0), (.int .i64 0), (.int .i64 0), (.int .i64 0), (.slice none 0 0), (.int .i64 0), (.int .i64 0), (.int .i64 0), (.int .i64 0), (.slice none 0 0), (.int .i64 0), (.int .i64 0), (.int .i64 0), (.int .i64 0), (.slice none 0 0), (.int .i64 0), (.int .i64 0), (.int .i64 0), (.int .i64 0), (.slice none 0 0), (.int .i64 0), (.int .i64 0), (.int .i64 0), (.int .i64 0), (.slice none 0 0), (.int .i64 0), (.int .i64 0), (.int .i64 0), (.int .i64 0), (.slice none 0 0), (.int .i64 0), (.int .i64 0), (.int .i64 0), (.int .i64 0), (.slice none 0 0), (.int .i64 0), (.int .i64 0), (.int .i64 0), (.int .i64 0), (.slice none 0 0), (.int .i64 0), (.int .i64 0), (.int .i64 0), (.int .i64 0), (.slice none 0 0), (.int .i64 0), (.int .i64 0), (.int .i64 0), (.int .i64 0), (.slice none 0 0), (.int .i64 0), (.int .i64 0), (.int .i64 0), (.int .i64 0), (.slice none 0 0), (.int .i64 0), (.int .i64 0), (.int .i64 0), (.int .i64 0), (.slice none 0 0), (.int .i64 0), (.int .i64 0), (.int .i64 0), (.int .i64 0), (.slice none 0 0), (.int .i64 0), (.int .i64 0), (.int .i64 0), (.int .i64 0), (.slice none 0 0), (.int .i64 0), (.int .i64 0), (.int .i64 0), (.int .i64 0), (.slice none 0 0), (.int .i64 0), (.int .i64 0), (.int .i64 0), (.int .i64 0), (.slice none 0 0), (.int .i64 0), (.int .i64 0), (.int .i64 0), (.int .i64 0), (.slice none 0 0), (.map none)] [(0, 1, (.tmp 19)), (2, 125, (.tmp 20)), (127, 1, (.tmp 21))]⟩,
 ⟨some 23, none, .box (.tmp 22)⟩,
 ⟨some 5, none, .mov (.tmp 23)⟩])
 (.seq (.seq (.ops [⟨some 24, none, .mov (.tmp 0)⟩,
 ⟨some 25, none, .lnl (.tmp 24)⟩,
 ⟨some 26, none, .mov (.const (.int .i64 0))⟩])
 (.block 1 (.loop (.seq (.ops [⟨some 27, none, .bin .lss (.tmp 26) (.tmp 25)⟩])
 (.seq (.cond (.tmp 27)
 .skip
 (.exit 1))
 (.seq (.block 2 (.seq (.ops [⟨some 28, none, .mov (.tmp 26)⟩,
 ⟨some 29, none, .iad 7 (.tmp 24) (.tmp 26)⟩,
 ⟨some 30, none, .ld 7 (.tmp 29)⟩,
 ⟨some 7, none, .newz [(.int .i64 0), (.int .i64 0), (.int .i64 0), (.string ⟨#[]⟩), (.int .i64 0), (.int .i64 0), (.int .i64 0)]⟩,
 ⟨some 6, none, .mov (.tmp 28)⟩,
 ⟨none, none, .st 7 (.tmp 7) (.tmp 30)⟩])
 (.seq (.ops [⟨some 31, none, .mov (.tmp 5)⟩,
 ⟨some 32, none, .call (.func 72) [(.tmp 31)]⟩,
 ⟨some 8, none, .newz [(.int .i64 0), (.int .i64 0), (.int .i64 0)]⟩,
 ⟨none, none, .st 3 (.tmp 8) (.tmp 32)⟩])
 (.seq (.seq (.ops [⟨some 33, none, .fad (.tmp 8) 2⟩,
 ⟨some 34, none, .ld1 (.tmp 33)⟩,
 ⟨some 35, none, .bin .lss (.tmp 34) (.const (.int .i64 0))⟩])
 (.cond (.tmp 35)
 (.seq (.ops [⟨some 36, none, .mov (.tmp 6)⟩,
 ⟨some 2, none, .mov (.const (.pointer none))⟩,
 ⟨some 3, none, .mov (.tmp 36)⟩,
 ⟨some 4, none, .mov (.const (.int .i64 6))⟩])
 .ret)
 .skip))
 (.seq (.seq (.ops [⟨some 37, none, .ld 7 (.tmp 7)⟩,
 ⟨some 38, none, .fad (.tmp 8) 2⟩,
 ⟨some 39, none, .ld1 (.tmp 38)⟩,
 ⟨some 40, none, .call (.func 73) [(.tmp 37), (.tmp 39)]⟩,
 ⟨some 9, none, .mov (.tmp 40)⟩])
 (.seq (.ops [⟨some 41, none, .mov (.tmp 9)⟩,
 ⟨some 42, none, .bin .neq (.tmp 41) (.const (.int .i64 0))⟩])
 (.cond (.tmp 42)
 (.seq (.ops [⟨some 43, none, .mov (.tmp 6)⟩,
 ⟨some 44, none, .mov (.tmp 9)⟩,
 ⟨some 2, none, .mov (.const (.pointer none))⟩,
 ⟨some 3, none, .mov (.tmp 43)⟩,
 ⟨some 4, none, .mov (.tmp 44)⟩])
 .ret)
 .skip)))
 (.seq (.seq (.ops [⟨some 45, none, .mov (.tmp 5)⟩,
 ⟨some 46, none, .ld 7 (.tmp 7)⟩,
 ⟨some 47, none, .ld 3 (.tmp 8)⟩,
 ⟨some 48, none, .call (.func 74) [(.tmp 45), (.tmp 46), (.tmp 47)]⟩,
 ⟨some 10, none, .mov (.tmp 48)⟩])
 (.seq (.ops [⟨some 49, none, .mov (.tmp 10)⟩,
 ⟨some 50, none, .bin .neq (.tmp 49) (.const (.int .i64 0))⟩])
 (.cond (.tmp 50)
 (.seq (.ops [⟨some 51, none, .mov (.tmp 6)⟩,
 ⟨some 52, none, .mov (.tmp 10)⟩,
 ⟨some 2, none, .mov (.const (.pointer none))⟩,
 ⟨some 3, none, .mov (.tmp 51)⟩,
 ⟨some 4, none, .mov (.tmp 52)⟩])
 .ret)
 .skip)))
 (.draw [⟨some 53, none, .mov (.tmp 5)⟩,
 ⟨some 54, none, .mov (.tmp 5)⟩,
 ⟨some 55, none, .nilck (.tmp 54)⟩,
 ⟨some 56, none, .fad (.tmp 55) 1⟩,
 ⟨some 57, none, .ld1 (.tmp 56)⟩,
 ⟨some 58, none, .ld 3 (.tmp 8)⟩,
 ⟨some 59, none, .lits [(.int .i64 0), (.int .i64 0), (.int .i64 0)] 1 [(0, 3, (.tmp 58))]⟩,
 ⟨some 60, none, .app 3 24 none (.tmp 57) (.tmp 59)⟩,
 ⟨some 61, none, .nilck (.tmp 53)⟩,
 ⟨some 62, none, .fad (.tmp 61) 1⟩,
 ⟨none, none, .st 1 (.tmp 62) (.tmp 60)⟩] [(0, 1), (0, 2), (0, 3), (0, 4), (0, 5), (1, 5), (2, 5), (3, 5), (4, 5), (0, 6), (1, 6), (2, 6), (3, 6), (4, 6), (0, 7)])))))))
 (.ops [⟨some 63, none, .bin .add (.tmp 26) (.const (.int .i64 1))⟩,
 ⟨some 26, none, .mov (.tmp 63)⟩])))))))
 (.seq (.seq (.ops [⟨some 64, none, .mov (.tmp 5)⟩,
 ⟨some 65, none, .call (.func 72) [(.tmp 64)]⟩,
 ⟨some 66, none, .fld1 (.tmp 65) 2⟩,
 ⟨some 67, none, .bin .geq (.tmp 66) (.const (.int .i64 0))⟩])
 (.cond (.tmp 67)
 (.seq (.ops [⟨some 68, none, .mov (.tmp 0)⟩,
 ⟨some 69, none, .lnl (.tmp 68)⟩,
 ⟨some 2, none, .mov (.const (.pointer none))⟩,
 ⟨some 3, none, .mov (.tmp 69)⟩,
 ⟨some 4, none, .mov (.const (.int .i64 6))⟩])
 .ret)
 .skip))
 (.seq (.ops [⟨some 70, none, .mov (.tmp 5)⟩,
 ⟨some 71, none, .call (.func 75) [(.tmp 70)]⟩,
 ⟨some 72, none, .ext (.tmp 71) 0⟩,
 ⟨some 73, none, .ext (.tmp 71) 1⟩,
 ⟨some 74, none, .ext (.tmp 71) 2⟩,
 ⟨some 2, none, .mov (.tmp 72)⟩,
 ⟨some 3, none, .mov (.tmp 73)⟩,
 ⟨some 4, none, .mov (.tmp 74)⟩])
 .ret))))))⟩
theorem ok52 : compF Tryz.prog Tryz.f52 = some c52 := by kernel_rfl
def c53 : CF := ⟨30, [.tmp 4],
 (.seq (.ops [⟨some 4, none, .mov (.const (.slice none 0 0))⟩])
 (.seq (.ops [⟨some 5, none, .mov (.const (.slice none 0 0))⟩])
 (.seq (.seq (.ops [⟨some 7, none, .mov (.tmp 1)⟩,
 ⟨some 8, none, .bin .add (.tmp 7) (.const (.int .i64 1))⟩,
 ⟨some 6, none, .mov (.tmp 8)⟩])
 (.block 0 (.loop (.seq (.seq (.ops [⟨some 9, none, .mov (.tmp 6)⟩,
 ⟨some 10, none, .mov (.tmp 0)⟩,
 ⟨some 11, none, .nilck (.tmp 10)⟩,
 ⟨some 12, none, .fad (.tmp 11) 1⟩,
 ⟨some 13, none, .ld1 (.tmp 12)⟩,
 ⟨some 14, none, .mov (.tmp 1)⟩,
 ⟨some 15, none, .iad 1 (.tmp 13) (.tmp 14)⟩,
 ⟨some 16, none, .ld1 (.tmp 15)⟩,
 ⟨some 17, none, .bin .lss (.tmp 9) (.tmp 16)⟩])
 (.cond (.tmp 17)
 .skip
 (.exit 0)))
 (.seq (.block 1 (.ops [⟨some 25, none, .mov (.tmp 5)⟩,
 ⟨some 26, none, .mov (.tmp 6)⟩,
 ⟨some 27, none, .lits [(.int .i64 0)] 1 [(0, 1, (.tmp 26))]⟩,
 ⟨some 28, none, .app 1 8 none (.tmp 25) (.tmp 27)⟩,
 ⟨some 5, none, .mov (.tmp 28)⟩]))
 (.ops [⟨some 18, none, .mov (.tmp 0)⟩,
 ⟨some 19, none, .nilck (.tmp 18)⟩,
 ⟨some 20, none, .fad (.tmp 19) 1⟩,
 ⟨some 21, none, .ld1 (.tmp 20)⟩,
 ⟨some 22, none, .mov (.tmp 6)⟩,
 ⟨some 23, none, .iad 1 (.tmp 21) (.tmp 22)⟩,
 ⟨some 24, none, .ld1 (.tmp 23)⟩,
 ⟨some 6, none, .mov (.tmp 24)⟩]))))))
 (.seq (.ops [⟨some 29, none, .mov (.tmp 5)⟩,
 ⟨some 4, none, .mov (.tmp 29)⟩])
 .ret))))⟩
theorem ok53 : compF Tryz.prog Tryz.f53 = some c53 := by kernel_rfl
def c54 : CF := ⟨41, [.tmp 8],
 (.seq (.ops [⟨some 5, none, .box (.tmp 1)⟩,
 ⟨some 8, none, .mov (.const (.slice none 0 0))⟩])
 (.seq (.ops [⟨some 12, none, .mov (.tmp 2)⟩,
 ⟨some 13, none, .cvi .i32 (.tmp 12)⟩,
 ⟨some 14, none, .mov (.tmp 3)⟩,
 ⟨some 15, none, .lnl (.tmp 14)⟩,
 ⟨some 16, none, .fad (.tmp 5) 5⟩,
 ⟨none, none, .st 1 (.tmp 16) (.tmp 13)⟩,
 ⟨some 17, none, .fad (.tmp 5) 1⟩,
 ⟨none, none, .st 1 (.tmp 17) (.tmp 15)⟩])
 (.seq (.ops [⟨some 18, none, .ld 6 (.tmp 5)⟩,
 ⟨some 19, none, .lits [(.int .i64 0), (.int .i64 0), (.int .i64 0), (.string ⟨#[]⟩), (.int .i32 0), (.int .i32 0)] 1 [(0, 6, (.tmp 18))]⟩,
 ⟨some 9, none, .mov (.tmp 19)⟩])
 (.seq (.seq (.ops [⟨some 20, none, .mov (.tmp 3)⟩,
 ⟨some 21, none, .lnl (.tmp 20)⟩,
 ⟨some 22, none, .mov (.const (.int .i64 0))⟩])
 (.block 0 (.loop (.seq (.ops [⟨some 23, none, .bin .lss (.tmp 22) (.tmp 21)⟩])
 (.seq (.cond (.tmp 23)
 .skip
 (.exit 0))
 (.seq (.block 1 (.seq (.ops [⟨some 24, none, .iad 1 (.tmp 20) (.tmp 22)⟩,
 ⟨some 25, none, .ld1 (.tmp 24)⟩,
 ⟨some 11, none, .mov (.tmp 25)⟩])
 (.seq (.seq (.ops [⟨some 26, none, .mov (.tmp 9)⟩,
 ⟨some 27, none, .lnl (.tmp 26)⟩,
 ⟨some 28, none, .mov (.tmp 11)⟩,
 ⟨some 29, none, .lnl (.tmp 28)⟩,
 ⟨some 30, none, .bin .add (.tmp 27) (.tmp 29)⟩,
 ⟨some 31, none, .bin .gtr (.tmp 30) (.const (.int .i64 2000))⟩])
 (.cond (.tmp 31)
 (.seq (.ops [⟨some 32, none, .mov (.tmp 0)⟩,
 ⟨some 33, none, .nilck (.tmp 32)⟩,
 ⟨some 34, none, .fad (.tmp 33) 1⟩,
 ⟨none, none, .st 1 (.tmp 34) (.const (.bool true))⟩])
 (.seq (.ops [⟨some 35, none, .mov (.tmp 9)⟩,
 ⟨some 8, none, .mov (.tmp 35)⟩])
 .ret))
 .skip))
 (.ops [⟨some 36, none, .mov (.tmp 9)⟩,
 ⟨some 37, none, .mov (.tmp 11)⟩,
 ⟨some 38, none, .app 6 48 none (.tmp 36) (.tmp 37)⟩,
 ⟨some 9, none, .mov (.tmp 38)⟩]))))
 (.ops [⟨some 39, none, .bin .add (.tmp 22) (.const (.int .i64 1))⟩,
 ⟨some 22, none, .mov (.tmp 39)⟩])))))))
 (.seq (.ops [⟨some 40, none, .mov (.tmp 9)⟩,
 ⟨some 8, none, .mov (.tmp 40)⟩])
 .ret)))))⟩
theorem ok54 : compF Tryz.prog Tryz.f54 = some c54 := by kernel_rfl
def c55 : CF := ⟨12, [.tmp 6],
 (.seq (.ops [⟨some 6, none, .mov (.const (.slice none 0 0))⟩])
 (.seq (.ops [⟨some 7, none, .mov (.tmp 0)⟩,
 ⟨some 8, none, .mov (.tmp 1)⟩,
 ⟨some 9, none, .agg [(.int .i64 0), (.int .i64 0), (.int .i64 0), (.string ⟨#[]⟩), (.int .i32 0), (.int .i32 0)] [(0, 1, (.const (.int .i64 2))), (2, 1, (.tmp 8))]⟩,
 ⟨some 10, none, .mov (.tmp 2)⟩,
 ⟨some 11, none, .call (.func 54) [(.tmp 7), (.tmp 9), (.tmp 10), (.const (.slice none 0 0))]⟩,
 ⟨some 6, none, .mov (.tmp 11)⟩])
 .ret))⟩
theorem ok55 : compF Tryz.prog Tryz.f55 = some c55 := by kernel_rfl
def c56 : CF := ⟨26, [.tmp 4],
 (.seq (.ops [⟨some 4, none, .mov (.const (.int .i64 0))⟩])
 (.seq (.ops [⟨some 6, none, .mov (.tmp 0)⟩,
 ⟨some 7, none, .lnl (.tmp 6)⟩,
 ⟨some 8, none, .bin .sub (.tmp 7) (.const (.int .i64 1))⟩,
 ⟨some 5, none, .mov (.tmp 8)⟩])
 (.seq (.block 0 (.loop (.seq (.seq (.ops [⟨some 9, none, .mov (.tmp 5)⟩,
 ⟨some 10, none, .bin .gtr (.tmp 9) (.const (.int .i64 0))⟩,
 ⟨some 11, none, .mov (.tmp 10)⟩,
 ⟨some 12, (some (11, true)), .mov (.tmp 0)⟩,
 ⟨some 13, (some (11, true)), .mov (.tmp 5)⟩,
 ⟨some 14, (some (11, true)), .iad 1 (.tmp 12) (.tmp 13)⟩,
 ⟨some 15, (some (11, true)), .ld1 (.tmp 14)⟩,
 ⟨some 16, (some (11, true)), .mov (.tmp 1)⟩,
 ⟨some 17, (some (11, true)), .bin .neq (.tmp 15) (.tmp 16)⟩,
 ⟨some 18, none, .pick (.tmp 11) (.tmp 17) (.const (.bool false))⟩])
 (.cond (.tmp 18)
 .skip
 (.exit 0)))
 (.block 1 (.ops [⟨some 19, none, .mov (.tmp 5)⟩,
 ⟨some 20, none, .bin .sub (.tmp 19) (.const (.int .i64 1))⟩,
 ⟨some 5, none, .mov (.tmp 20)⟩])))))
 (.seq (.ops [⟨some 21, none, .mov (.tmp 0)⟩,
 ⟨some 22, none, .lnl (.tmp 21)⟩,
 ⟨some 23, none, .bin .sub (.tmp 22) (.const (.int .i64 1))⟩,
 ⟨some 24, none, .mov (.tmp 5)⟩,
 ⟨some 25, none, .bin .sub (.tmp 23) (.tmp 24)⟩,
 ⟨some 4, none, .mov (.tmp 25)⟩])
 .ret))))⟩
theorem ok56 : compF Tryz.prog Tryz.f56 = some c56 := by kernel_rfl
def c57 : CF := ⟨66, [.tmp 4, .tmp 5, .tmp 6],
 (.seq (.ops [⟨some 4, none, .mov (.const (.slice none 0 0))⟩,
 ⟨some 5, none, .mov (.const (.slice none 0 0))⟩,
 ⟨some 6, none, .mov (.const (.int .i64 0))⟩])
 (.seq (.ops [⟨some 10, none, .mov (.tmp 0)⟩,
 ⟨some 11, none, .nilck (.tmp 10)⟩,
 ⟨some 12, none, .fad (.tmp 11) 0⟩,
 ⟨some 13, none, .ld1 (.tmp 12)⟩,
 ⟨some 14, none, .mov (.tmp 1)⟩,
 ⟨some 15, none, .call (.func 53) [(.tmp 13), (.tmp 14)]⟩,
 ⟨some 7, none, .mov (.tmp 15)⟩])
 (.seq (.ops [⟨some 16, none, .mov (.tmp 7)⟩,
 ⟨some 17, none, .mov (.tmp 7)⟩,
 ⟨some 18, none, .lnl (.tmp 17)⟩,
 ⟨some 19, none, .bin .sub (.tmp 18) (.const (.int .i64 1))⟩,
 ⟨some 20, none, .iad 1 (.tmp 16) (.tmp 19)⟩,
 ⟨some 21, none, .ld1 (.tmp 20)⟩,
 ⟨some 6, none, .mov (.tmp 21)⟩])
 (.seq (.seq (.ops [⟨some 22, none, .mov (.tmp 7)⟩,
 ⟨some 23, none, .mov (.tmp 7)⟩,
 ⟨some 24, none, .lnl (.tmp 23)⟩,
 ⟨some 25, none, .bin .sub (.tmp 24) (.const (.int .i64 1))⟩,
 ⟨some 26, none, .sl 1 (.tmp 22) none (some (.tmp 25)) none⟩,
 ⟨some 27, none, .lnl (.tmp 26)⟩,
 ⟨some 28, none, .mov (.const (.int .i64 0))⟩])
 (.block 0 (.loop (.seq (.ops [⟨some 29, none, .bin .lss (.tmp 28) (.tmp 27)⟩])
 (.seq (.cond (.tmp 29)
 .skip
 (.exit 0))
 (.seq (.block 1 (.seq (.ops [⟨some 30, none, .iad 1 (.tmp 26) (.tmp 28)⟩,
 ⟨some 31, none, .ld1 (.tmp 30)⟩,
 ⟨some 9, none, .mov (.tmp 31)⟩])
 (.seq (.ops [⟨some 32, none, .mov (.tmp 0)⟩,
 ⟨some 33, none, .nilck (.tmp 32)⟩,
 ⟨some 34, none, .fad (.tmp 33) 0⟩,
 ⟨some 35, none, .ld1 (.tmp 34)⟩,
 ⟨some 36, none, .nilck (.tmp 35)⟩,
 ⟨some 37, none, .fad (.tmp 36) 0⟩,
 ⟨some 38, none, .ld1 (.tmp 37)⟩,
 ⟨some 39, none, .mov (.tmp 9)⟩,
 ⟨some 40, none, .iad 7 (.tmp 38) (.tmp 39)⟩,
 ⟨some 41, none, .fad (.tmp 40) 0⟩,
 ⟨some 42, none, .ld1 (.tmp 41)⟩,
 ⟨some 43, none, .bin .eql (.tmp 42) (.const (.int .i64 9))⟩])
 (.cond (.tmp 43)
 (.ops [⟨some 44, none, .mov (.tmp 4)⟩,
 ⟨some 45, none, .mov (.tmp 0)⟩,
 ⟨some 46, none, .nilck (.tmp 45)⟩,
 ⟨some 47, none, .fad (.tmp 46) 0⟩,
 ⟨some 48, none, .ld1 (.tmp 47)⟩,
 ⟨some 49, none, .nilck (.tmp 48)⟩,
 ⟨some 50, none, .fad (.tmp 49) 0⟩,
 ⟨some 51, none, .ld1 (.tmp 50)⟩,
 ⟨some 52, none, .mov (.tmp 9)⟩,
 ⟨some 53, none, .iad 7 (.tmp 51) (.tmp 52)⟩,
 ⟨some 54, none, .fad (.tmp 53) 2⟩,
 ⟨some 55, none, .ld1 (.tmp 54)⟩,
 ⟨some 56, none, .lits [(.int .i64 0)] 1 [(0, 1, (.tmp 55))]⟩,
 ⟨some 57, none, .app 1 8 none (.tmp 44) (.tmp 56)⟩,
 ⟨some 4, none, .mov (.tmp 57)⟩])
 (.ops [⟨some 58, none, .mov (.tmp 5)⟩,
 ⟨some 59, none, .mov (.tmp 9)⟩,
 ⟨some 60, none, .lits [(.int .i64 0)] 1 [(0, 1, (.tmp 59))]⟩,
 ⟨some 61, none, .app 1 8 none (.tmp 58) (.tmp 60)⟩,
 ⟨some 5, none, .mov (.tmp 61)⟩])))))
 (.ops [⟨some 62, none, .bin .add (.tmp 28) (.const (.int .i64 1))⟩,
 ⟨some 28, none, .mov (.tmp 62)⟩])))))))
 (.seq (.ops [⟨some 63, none, .mov (.tmp 4)⟩,
 ⟨some 64, none, .mov (.tmp 5)⟩,
 ⟨some 65, none, .mov (.tmp 6)⟩,
 ⟨some 4, none, .mov (.tmp 63)⟩,
 ⟨some 5, none, .mov (.tmp 64)⟩,
 ⟨some 6, none, .mov (.tmp 65)⟩])
 .ret)))))⟩
theorem ok57 : compF Tryz.prog Tryz.f57 = some c57 := by kernel_rfl
def c58 : CF := ⟨19, [.tmp 10],
 (.seq (.ops [⟨some 10, none, .mov (.const (.slice none 0 0))⟩])
 (.seq (.ops [⟨some 11, none, .mov (.tmp 0)⟩,
 ⟨some 12, none, .mov (.tmp 2)⟩,
 ⟨some 13, none, .mov (.tmp 1)⟩,
 ⟨some 14, none, .agg [(.int .i64 0), (.int .i64 0), (.int .i64 0), (.string ⟨#[]⟩), (.int .i32 0), (.int .i32 0)] [(0, 1, (.const (.int .i64 8))), (2, 1, (.tmp 12)), (4, 1, (.tmp 13))]⟩,
 ⟨some 15, none, .mov (.tmp 3)⟩,
 ⟨some 16, none, .mov (.tmp 4)⟩,
 ⟨some 17, none, .lits [(.slice none 0 0)] 1 [(0, 1, (.tmp 16))]⟩,
 ⟨some 18, none, .call (.func 54) [(.tmp 11), (.tmp 14), (.tmp 15), (.tmp 17)]⟩,
 ⟨some 10, none, .mov (.tmp 18)⟩])
 .ret))⟩
theorem ok58 : compF Tryz.prog Tryz.f58 = some c58 := by kernel_rfl
def c59 : CF := ⟨13, [.tmp 4],
 (.seq (.ops [⟨some 4, none, .mov (.const (.slice none 0 0))⟩])
 (.seq (.ops [⟨some 5, none, .mov (.tmp 0)⟩,
 ⟨some 6, none, .mov (.tmp 0)⟩,
 ⟨some 7, none, .lnl (.tmp 6)⟩,
 ⟨some 8, none, .mov (.tmp 0)⟩,
 ⟨some 9, none, .lnl (.tmp 8)⟩,
 ⟨some 10, none, .sl 1 (.tmp 5) none (some (.tmp 7)) (some (.tmp 9))⟩,
 ⟨some 11, none, .mov (.tmp 1)⟩,
 ⟨some 12, none, .app 1 8 none (.tmp 10) (.tmp 11)⟩,
 ⟨some 4, none, .mov (.tmp 12)⟩])
 .ret))⟩
theorem ok59 : compF Tryz.prog Tryz.f59 = some c59 := by kernel_rfl
def c60 : CF := ⟨15, [.tmp 8],
 (.seq (.ops [⟨some 8, none, .mov (.const (.slice none 0 0))⟩])
 (.seq (.ops [⟨some 9, none, .mov (.tmp 0)⟩,
 ⟨some 10, none, .mov (.tmp 1)⟩,
 ⟨some 11, none, .agg [(.int .i64 0), (.int .i64 0), (.int .i64 0), (.string ⟨#[]⟩), (.int .i32 0), (.int .i32 0)] [(0, 1, (.const (.int .i64 9))), (4, 1, (.tmp 10))]⟩,
 ⟨some 12, none, .mov (.tmp 2)⟩,
 ⟨some 13, none, .mov (.tmp 3)⟩,
 ⟨some 14, none, .call (.func 54) [(.tmp 9), (.tmp 11), (.tmp 12), (.tmp 13)]⟩,
 ⟨some 8, none, .mov (.tmp 14)⟩])
 .ret))⟩
theorem ok60 : compF Tryz.prog Tryz.f60 = some c60 := by kernel_rfl
def c61 : CF := ⟨25, [.tmp 6],
 (.seq (.ops [⟨some 6, none, .mov (.const (.slice none 0 0))⟩])
 (.seq (.ops [⟨some 7, none, .mov (.const (.slice none 0 0))⟩])
 (.seq (.seq (.ops [⟨some 10, none, .mov (.tmp 1)⟩,
 ⟨some 11, none, .lnl (.tmp 10)⟩,
 ⟨some 12, none, .mov (.const (.int .i64 0))⟩])
 (.block 0 (.loop (.seq (.ops [⟨some 13, none, .bin .lss (.tmp 12) (.tmp 11)⟩])
 (.seq (.cond (.tmp 13)
 .skip
 (.exit 0))
 (.seq (.block 1 (.seq (.ops [⟨some 14, none, .iad 1 (.tmp 10) (.tmp 12)⟩,
 ⟨some 15, none, .ld1 (.tmp 14)⟩,
 ⟨some 9, none, .mov (.tmp 15)⟩])
 (.ops [⟨some 16, none, .mov (.tmp 7)⟩,
 ⟨some 17, none, .mov (.tmp 0)⟩,
 ⟨some 18, none, .mov (.tmp 9)⟩,
 ⟨some 19, none, .mov (.tmp 2)⟩,
 ⟨some 20, none, .call (.func 25) [(.tmp 17), (.tmp 18), (.tmp 19)]⟩,
 ⟨some 21, none, .lits [(.slice none 0 0)] 1 [(0, 1, (.tmp 20))]⟩,
 ⟨some 22, none, .app 1 24 none (.tmp 16) (.tmp 21)⟩,
 ⟨some 7, none, .mov (.tmp 22)⟩])))
 (.ops [⟨some 23, none, .bin .add (.tmp 12) (.const (.int .i64 1))⟩,
 ⟨some 12, none, .mov (.tmp 23)⟩])))))))
 (.seq (.ops [⟨some 24, none, .mov (.tmp 7)⟩,
 ⟨some 6, none, .mov (.tmp 24)⟩])
 .ret))))⟩
theorem ok61 : compF Tryz.prog Tryz.f61 = some c61 := by kernel_rfl
def c62 : CF := ⟨15, [.tmp 8],
 (.seq (.ops [⟨some 8, none, .mov (.const (.slice none 0 0))⟩])
 (.seq (.ops [⟨some 9, none, .mov (.tmp 0)⟩,
 ⟨some 10, none, .mov (.tmp 1)⟩,
 ⟨some 11, none, .agg [(.int .i64 0), (.int .i64 0), (.int .i64 0), (.string ⟨#[]⟩), (.int .i32 0), (.int .i32 0)] [(0, 1, (.const (.int .i64 10))), (4, 1, (.tmp 10))]⟩,
 ⟨some 12, none, .mov (.tmp 2)⟩,
 ⟨some 13, none, .mov (.tmp 3)⟩,
 ⟨some 14, none, .call (.func 54) [(.tmp 9), (.tmp 11), (.tmp 12), (.tmp 13)]⟩,
 ⟨some 8, none, .mov (.tmp 14)⟩])
 .ret))⟩
theorem ok62 : compF Tryz.prog Tryz.f62 = some c62 := by kernel_rfl
def c63 : CF := ⟨20, [.tmp 8],
 (.seq (.ops [⟨some 8, none, .mov (.const (.slice none 0 0))⟩])
 (.seq (.ops [⟨some 9, none, .mov (.tmp 0)⟩,
 ⟨some 10, none, .mov (.tmp 1)⟩,
 ⟨some 11, none, .mov (.tmp 2)⟩,
 ⟨some 12, none, .mov (.tmp 0)⟩,
 ⟨some 13, none, .mov (.tmp 1)⟩,
 ⟨some 14, none, .bin .add (.tmp 13) (.const (.int .i32 1))⟩,
 ⟨some 15, none, .mov (.tmp 2)⟩,
 ⟨some 16, none, .mov (.tmp 3)⟩,
 ⟨some 17, none, .call (.func 58) [(.tmp 12), (.tmp 14), (.const (.int .i64 0)), (.tmp 15), (.tmp 16)]⟩,
 ⟨some 18, none, .lits [(.slice none 0 0)] 1 [(0, 1, (.tmp 17))]⟩,
 ⟨some 19, none, .call (.func 60) [(.tmp 9), (.tmp 10), (.tmp 11), (.tmp 18)]⟩,
 ⟨some 8, none, .mov (.tmp 19)⟩])
 .ret))⟩
theorem ok63 : compF Tryz.prog Tryz.f63 = some c63 := by kernel_rfl
def c64 : CF := ⟨44, [.tmp 8],
 (.seq (.ops [⟨some 8, none, .mov (.const (.slice none 0 0))⟩])
 (.seq (.draw [⟨some 10, none, .ld1 (.tmp 2)⟩,
 ⟨some 11, none, .mov (.tmp 0)⟩,
 ⟨some 12, none, .iad 1 (.tmp 11) (.const (.int .i64 0))⟩,
 ⟨some 13, none, .ld1 (.tmp 12)⟩,
 ⟨some 14, none, .mov (.tmp 1)⟩,
 ⟨some 15, none, .call (.func 25) [(.tmp 10), (.tmp 13), (.tmp 14)]⟩,
 ⟨some 9, none, .mov (.tmp 15)⟩] [(0, 1), (0, 2), (0, 3), (0, 4), (1, 4), (2, 4), (3, 4)])
 (.seq (.seq (.ops [⟨some 16, none, .mov (.tmp 0)⟩,
 ⟨some 17, none, .lnl (.tmp 16)⟩,
 ⟨some 18, none, .bin .eql (.tmp 17) (.const (.int .i64 1))⟩])
 (.cond (.tmp 18)
 (.seq (.ops [⟨some 19, none, .ld1 (.tmp 2)⟩,
 ⟨some 20, none, .ld1 (.tmp 3)⟩,
 ⟨some 21, none, .mov (.tmp 9)⟩,
 ⟨some 22, none, .call (.func 63) [(.tmp 19), (.const (.int .i32 14)), (.tmp 20), (.tmp 21)]⟩,
 ⟨some 8, none, .mov (.tmp 22)⟩])
 .ret)
 .skip))
 (.seq (.draw [⟨some 23, none, .ld1 (.tmp 2)⟩,
 ⟨some 24, none, .ld1 (.tmp 3)⟩,
 ⟨some 25, none, .ld1 (.tmp 2)⟩,
 ⟨some 26, none, .ld1 (.tmp 3)⟩,
 ⟨some 27, none, .ld1 (.tmp 2)⟩,
 ⟨some 28, none, .ld1 (.tmp 3)⟩,
 ⟨some 29, none, .ld1 (.tmp 4)⟩,
 ⟨some 30, none, .ld1 (.tmp 4)⟩,
 ⟨some 31, none, .ld1 (.tmp 5)⟩,
 ⟨some 32, none, .mov (.tmp 0)⟩,
 ⟨some 33, none, .sl 1 (.tmp 32) (some (.const (.int .i64 1))) none none⟩,
 ⟨some 34, none, .mov (.tmp 1)⟩,
 ⟨some 35, none, .lits [(.int .i64 0)] 1 [(0, 1, (.const (.int .i64 (-1))))]⟩,
 ⟨some 36, none, .call (.func 59) [(.tmp 34), (.tmp 35)]⟩,
 ⟨some 37, none, .call (.tmp 31) [(.tmp 33), (.tmp 36)]⟩,
 ⟨some 38, none, .lits [(.slice none 0 0), (.slice none 0 0), (.slice none 0 0)] 3 [(0, 1, (.tmp 29)), (1, 1, (.tmp 30)), (2, 1, (.tmp 37))]⟩,
 ⟨some 39, none, .call (.func 62) [(.tmp 27), (.const (.int .i32 18)), (.tmp 28), (.tmp 38)]⟩,
 ⟨some 40, none, .call (.func 58) [(.tmp 25), (.const (.int .i32 17)), (.const (.int .i64 1)), (.tmp 26), (.tmp 39)]⟩,
 ⟨some 41, none, .mov (.tmp 9)⟩,
 ⟨some 42, none, .lits [(.slice none 0 0), (.slice none 0 0)] 2 [(0, 1, (.tmp 40)), (1, 1, (.tmp 41))]⟩,
 ⟨some 43, none, .call (.func 60) [(.tmp 23), (.const (.int .i32 16)), (.tmp 24), (.tmp 42)]⟩,
 ⟨some 8, none, .mov (.tmp 43)⟩] [(0, 1), (0, 2), (1, 2), (0, 3), (1, 3), (2, 3), (0, 4), (1, 4), (2, 4), (3, 4), (0, 5), (1, 5), (2, 5), (3, 5), (4, 5), (0, 6), (1, 6), (2, 6), (3, 6), (4, 6), (5, 6), (0, 7), (1, 7), (2, 7), (3, 7), (4, 7), (5, 7), (6, 7), (0, 8), (1, 8), (2, 8), (3, 8), (4, 8), (5, 8), (6, 8), (7, 8), (0, 9), (1, 9), (2, 9), (3, 9), (4, 9), (5, 9), (6, 9), (7, 9), (8, 9), (0, 10), (1, 10), (2, 10), (3, 10), (4, 10), (5, 10), (6, 10), (7, 10), (8, 10), (0, 11), (1, 11), (2, 11), (3, 11), (4, 11), (5, 11), (6, 11), (7, 11), (8, 11), (9, 11), (10, 11), (0, 12), (1, 12), (2, 12), (3, 12), (4, 12), (5, 12), (6, 12), (7, 12), (8, 12), (9, 12), (10, 12), (11, 12), (0, 13), (1, 13), (2, 13), (3, 13), (4, 13), (5, 13), (6, 13), (7, 13), (8, 13), (9, 13), (10, 13), (0, 14), (1, 14), (2, 14), (3, 14), (4, 14), (5, 14), (6, 14), (7, 14), (0, 15), (1, 15), (2, 15), (3, 15), (4, 15), (5, 15), (0, 16), (1, 16), (2, 16), (3, 16), (0, 17), (1, 17), (0, 18), (1, 18), (2, 18), (3, 18), (4, 18), (5, 18), (6, 18), (7, 18), (8, 18), (9, 18), (10, 18), (11, 18), (12, 18), (13, 18), (14, 18), (15, 18), (16, 18), (17, 18), (0, 19), (1, 19)])
 .ret))))⟩
theorem ok64 : compF Tryz.prog Tryz.f64 = some c64 := by kernel_rfl
def c65 : CF := ⟨37, [.tmp 7],
 (.seq (.ops [⟨some 7, none, .mov (.const (.slice none 0 0))⟩])
 (.seq (.draw [⟨some 9, none, .ld1 (.tmp 2)⟩,
 ⟨some 10, none, .mov (.tmp 0)⟩,
 ⟨some 11, none, .iad 1 (.tmp 10) (.const (.int .i64 0))⟩,
 ⟨some 12, none, .ld1 (.tmp 11)⟩,
 ⟨some 13, none, .mov (.tmp 1)⟩,
 ⟨some 14, none, .call (.func 25) [(.tmp 9), (.tmp 12), (.tmp 13)]⟩,
 ⟨some 8, none, .mov (.tmp 14)⟩] [(0, 1), (0, 2), (0, 3), (0, 4), (1, 4), (2, 4), (3, 4)])
 (.seq (.seq (.ops [⟨some 15, none, .mov (.tmp 0)⟩,
 ⟨some 16, none, .lnl (.tmp 15)⟩,
 ⟨some 17, none, .bin .eql (.tmp 16) (.const (.int .i64 1))⟩])
 (.cond (.tmp 17)
 (.seq (.ops [⟨some 18, none, .ld1 (.tmp 2)⟩,
 ⟨some 19, none, .ld1 (.tmp 3)⟩,
 ⟨some 20, none, .mov (.tmp 8)⟩,
 ⟨some 21, none, .call (.func 63) [(.tmp 18), (.const (.int .i32 21)), (.tmp 19), (.tmp 20)]⟩,
 ⟨some 7, none, .mov (.tmp 21)⟩])
 .ret)
 .skip))
 (.seq (.draw [⟨some 22, none, .ld1 (.tmp 2)⟩,
 ⟨some 23, none, .ld1 (.tmp 3)⟩,
 ⟨some 24, none, .ld1 (.tmp 2)⟩,
 ⟨some 25, none, .ld1 (.tmp 3)⟩,
 ⟨some 26, none, .ld1 (.tmp 4)⟩,
 ⟨some 27, none, .mov (.tmp 0)⟩,
 ⟨some 28, none, .sl 1 (.tmp 27) (some (.const (.int .i64 1))) none none⟩,
 ⟨some 29, none, .mov (.tmp 1)⟩,
 ⟨some 30, none, .lits [(.int .i64 0)] 1 [(0, 1, (.const (.int .i64 (-1))))]⟩,
 ⟨some 31, none, .call (.func 59) [(.tmp 29), (.tmp 30)]⟩,
 ⟨some 32, none, .call (.tmp 26) [(.tmp 28), (.tmp 31)]⟩,
 ⟨some 33, none, .call (.func 58) [(.tmp 24), (.const (.int .i32 24)), (.const (.int .i64 1)), (.tmp 25), (.tmp 32)]⟩,
 ⟨some 34, none, .mov (.tmp 8)⟩,
 ⟨some 35, none, .lits [(.slice none 0 0), (.slice none 0 0)] 2 [(0, 1, (.tmp 33)), (1, 1, (.tmp 34))]⟩,
 ⟨some 36, none, .call (.func 60) [(.tmp 22), (.const (.int .i32 23)), (.tmp 23), (.tmp 35)]⟩,
 ⟨some 7, none, .mov (.tmp 36)⟩] [(0, 1), (0, 2), (1, 2), (0, 3), (1, 3), (2, 3), (0, 4), (1, 4), (2, 4), (3, 4), (0, 5), (1, 5), (2, 5), (3, 5), (4, 5), (0, 6), (1, 6), (2, 6), (3, 6), (4, 6), (0, 7), (1, 7), (2, 7), (3, 7), (4, 7), (5, 7), (6, 7), (0, 8), (1, 8), (2, 8), (3, 8), (4, 8), (5, 8), (6, 8), (7, 8), (0, 9), (1, 9), (2, 9), (3, 9), (4, 9), (5, 9), (6, 9), (0, 10), (1, 10), (2, 10), (3, 10), (0, 11), (1, 11), (0, 12), (1, 12), (2, 12), (3, 12), (4, 12), (5, 12), (6, 12), (7, 12), (8, 12), (9, 12), (10, 12), (11, 12), (0, 13), (1, 13)])
 .ret))))⟩
theorem ok65 : compF Tryz.prog Tryz.f65 = some c65 := by kernel_rfl
def c66 : CF := ⟨19, [.tmp 4, .tmp 5],
 (.seq (.ops [⟨some 2, none, .box (.tmp 0)⟩,
 ⟨some 4, none, .mov (.const (.int .i64 0))⟩,
 ⟨some 5, none, .mov (.const (.int .i64 0))⟩])
 (.seq (.seq (.ops [⟨some 6, none, .fad (.tmp 2) 0⟩,
 ⟨some 7, none, .ld1 (.tmp 6)⟩])
 (.block 0 (.seq (.block 2 (.seq (.block 1 (.seq (.seq (.seq (.ops [⟨some 9, none, .bin .eql (.tmp 7) (.const (.int .i64 11))⟩,
 ⟨some 8, none, .mov (.tmp 9)⟩])
 (.cond (.tmp 8)
 (.exit 1)
 .skip))
 (.seq (.ops [⟨some 11, none, .bin .eql (.tmp 7) (.const (.int .i64 8))⟩,
 ⟨some 10, none, .mov (.tmp 11)⟩])
 (.cond (.tmp 10)
 (.exit 2)
 .skip)))
 (.exit 0)))
 (.ops [⟨some 12, none, .fad (.tmp 2) 2⟩,
 ⟨some 13, none, .ld1 (.tmp 12)⟩,
 ⟨some 5, none, .mov (.tmp 13)⟩])))
 (.seq (.seq (.ops [⟨some 14, none, .mov (.tmp 1)⟩])
 (.cond (.tmp 14)
 (.ops [⟨some 15, none, .fad (.tmp 2) 2⟩,
 ⟨some 16, none, .ld1 (.tmp 15)⟩,
 ⟨some 4, none, .mov (.tmp 16)⟩])
 .skip))
 (.exit 0)))))
 (.seq (.ops [⟨some 17, none, .mov (.tmp 4)⟩,
 ⟨some 18, none, .mov (.tmp 5)⟩,
 ⟨some 4, none, .mov (.tmp 17)⟩,
 ⟨some 5, none, .mov (.tmp 18)⟩])
 .ret)))⟩
theorem ok66 : compF Tryz.prog Tryz.f66 = some c66 := by kernel_rfl
def c67 : CF := ⟨57, [.tmp 2],
 (.seq (.ops [⟨some 2, none, .mov (.const (.bool false))⟩])
 (.seq (.seq (.ops [⟨some 10, none, .mov (.tmp 0)⟩,
 ⟨some 11, none, .bin .eql (.tmp 10) (.const (.string ⟨#[]⟩))⟩,
 ⟨some 12, none, .mov (.tmp 11)⟩,
 ⟨some 13, (some (12, false)), .mov (.tmp 0)⟩,
 ⟨some 14, (some (12, false)), .lns (.tmp 13)⟩,
 ⟨some 15, (some (12, false)), .bin .gtr (.tmp 14) (.const (.int .i64 24))⟩,
 ⟨some 16, none, .pick (.tmp 12) (.const (.bool true)) (.tmp 15)⟩])
 (.cond (.tmp 16)
 (.seq (.ops [⟨some 2, none, .mov (.const (.bool false))⟩])
 .ret)
 .skip))
 (.seq (.ops [⟨some 17, none, .mov (.tmp 0)⟩,
 ⟨some 18, none, .call (.func 77) [(.tmp 17), (.const (.string ⟨#[43]⟩))]⟩,
 ⟨some 19, none, .call (.func 77) [(.tmp 18), (.const (.string ⟨#[45]⟩))]⟩,
 ⟨some 20, none, .call (.func 76) [(.tmp 19), (.const (.string ⟨#[48, 49, 50, 51, 52, 53, 54, 55, 56, 57]⟩))]⟩,
 ⟨some 3, none, .mov (.tmp 20)⟩])
 (.seq (.seq (.ops [⟨some 21, none, .mov (.tmp 3)⟩,
 ⟨some 22, none, .bin .eql (.tmp 21) (.const (.string ⟨#[]⟩))⟩,
 ⟨some 23, none, .mov (.tmp 22)⟩,
 ⟨some 24, (some (23, true)), .mov (.tmp 0)⟩,
 ⟨some 25, (some (23, true)), .call (.func 78) [(.tmp 24), (.const (.string ⟨#[48, 49, 50, 51, 52, 53, 54, 55, 56, 57]⟩))]⟩,
 ⟨some 26, none, .pick (.tmp 23) (.tmp 25) (.const (.bool false))⟩,
 ⟨some 27, none, .mov (.tmp 26)⟩,
 ⟨some 28, (some (27, true)), .mov (.tmp 0)⟩,
 ⟨some 29, (some (27, true)), .call (.func 79) [(.tmp 28), (.const (.string ⟨#[43, 45]⟩))]⟩,
 ⟨some 30, (some (27, true)), .un .not (.tmp 29)⟩,
 ⟨some 31, none, .pick (.tmp 27) (.tmp 30) (.const (.bool false))⟩])
 (.cond (.tmp 31)
 (.seq (.ops [⟨some 2, none, .mov (.const (.bool false))⟩])
 .ret)
 .skip))
 (.seq (.ops [⟨some 33, none, .mov (.tmp 0)⟩,
 ⟨some 34, none, .cvb (.tmp 33)⟩,
 ⟨some 35, none, .call (.func 80) [(.tmp 34)]⟩,
 ⟨some 32, none, .mov (.tmp 35)⟩,
 ⟨some 36, none, .ext (.tmp 32) 0⟩,
 ⟨some 37, none, .ext (.tmp 32) 1⟩,
 ⟨some 4, none, .mov (.tmp 36)⟩,
 ⟨some 5, none, .mov (.tmp 37)⟩])
 (.seq (.seq (.ops [⟨some 38, none, .mov (.tmp 5)⟩,
 ⟨some 39, none, .bin .neq (.tmp 38) (.const (.int .i64 0))⟩])
 (.cond (.tmp 39)
 (.seq (.ops [⟨some 2, none, .mov (.const (.bool false))⟩])
 .ret)
 .skip))
 (.seq (.seq (.ops [⟨some 40, none, .mov (.tmp 4)⟩,
 ⟨some 41, none, .lnl (.tmp 40)⟩,
 ⟨some 42, none, .mov (.const (.int .i64 0))⟩])
 (.block 0 (.loop (.seq (.ops [⟨some 43, none, .bin .lss (.tmp 42) (.tmp 41)⟩])
 (.seq (.cond (.tmp 43)
 .skip
 (.exit 0))
 (.seq (.block 1 (.seq (.ops [⟨some 44, none, .iad 1 (.tmp 40) (.tmp 42)⟩,
 ⟨some 45, none, .ld1 (.tmp 44)⟩,
 ⟨some 7, none, .mov (.tmp 45)⟩])
 (.seq (.ops [⟨some 47, none, .mov (.tmp 7)⟩,
 ⟨some 48, none, .call (.func 81) [(.tmp 47)]⟩,
 ⟨some 46, none, .mov (.tmp 48)⟩,
 ⟨some 49, none, .ext (.tmp 46) 0⟩,
 ⟨some 50, none, .ext (.tmp 46) 1⟩,
 ⟨some 8, none, .mov (.tmp 49)⟩,
 ⟨some 9, none, .mov (.tmp 50)⟩])
 (.seq (.ops [⟨some 51, none, .mov (.tmp 8)⟩])
 (.block 2 (.seq (.seq (.ops [⟨some 53, none, .bin .eql (.tmp 51) (.const (.int .i64 9))⟩,
 ⟨some 52, none, .mov (.tmp 53)⟩])
 (.cond (.tmp 52)
 .skip
 (.seq (.ops [⟨some 54, none, .bin .eql (.tmp 51) (.const (.int .i64 7))⟩,
 ⟨some 52, none, .mov (.tmp 54)⟩])
 (.cond (.tmp 52)
 .skip
 (.ops [⟨some 55, none, .bin .eql (.tmp 51) (.const (.int .i64 8))⟩,
 ⟨some 52, none, .mov (.tmp 55)⟩])))))
 (.cond (.tmp 52)
 .skip
 (.seq (.ops [⟨some 2, none, .mov (.const (.bool false))⟩])
 .ret))))))))
 (.ops [⟨some 56, none, .bin .add (.tmp 42) (.const (.int .i64 1))⟩,
 ⟨some 42, none, .mov (.tmp 56)⟩])))))))
 (.seq (.ops [⟨some 2, none, .mov (.const (.bool true))⟩])
 .ret))))))))⟩
theorem ok67 : compF Tryz.prog Tryz.f67 = some c67 := by kernel_rfl
def c68 : CF := ⟨25, [.tmp 5],
 (.seq (.ops [⟨some 5, none, .mov (.const (.int .i64 0))⟩])
 (.seq (.ops [⟨some 7, none, .mov (.tmp 0)⟩,
 ⟨some 8, none, .bin .add (.tmp 7) (.const (.int .i64 1))⟩,
 ⟨some 6, none, .mov (.tmp 8)⟩])
 (.seq (.seq (.ops [⟨some 9, none, .ld1 (.tmp 1)⟩,
 ⟨some 10, none, .mov (.tmp 0)⟩,
 ⟨some 11, none, .iad 6 (.tmp 9) (.tmp 10)⟩,
 ⟨some 12, none, .fad (.tmp 11) 1⟩,
 ⟨some 13, none, .ld1 (.tmp 12)⟩,
 ⟨some 14, none, .mov (.const (.int .i64 0))⟩])
 (.block 0 (.loop (.seq (.ops [⟨some 15, none, .bin .lss (.tmp 14) (.tmp 13)⟩])
 (.seq (.cond (.tmp 15)
 .skip
 (.exit 0))
 (.seq (.block 1 (.ops [⟨some 16, none, .ld1 (.tmp 2)⟩,
 ⟨some 17, none, .mov (.tmp 6)⟩,
 ⟨some 18, none, .call (.tmp 16) [(.tmp 17)]⟩,
 ⟨some 6, none, .mov (.tmp 18)⟩]))
 (.ops [⟨some 19, none, .bin .add (.tmp 14) (.const (.int .i64 1))⟩,
 ⟨some 14, none, .mov (.tmp 19)⟩])))))))
 (.seq (.ops [⟨some 20, none, .ld1 (.tmp 3)⟩,
 ⟨some 21, none, .mov (.tmp 0)⟩,
 ⟨some 22, none, .mov (.tmp 6)⟩,
 ⟨some 23, none, .iad 1 (.tmp 20) (.tmp 21)⟩,
 ⟨none, none, .st 1 (.tmp 23) (.tmp 22)⟩])
 (.seq (.ops [⟨some 24, none, .mov (.tmp 6)⟩,
 ⟨some 5, none, .mov (.tmp 24)⟩])
 .ret)))))⟩
theorem ok68 : compF Tryz.prog Tryz.f68 = some c68 := by kernel_rfl
def c69 : CF := ⟨26, [.tmp 6],
 (.seq (.ops [⟨some 6, none, .mov (.const (.slice none 0 0))⟩])
 (.seq (.ops [⟨some 7, none, .mov (.const (.slice none 0 0))⟩])
 (.seq (.seq (.ops [⟨some 9, none, .mov (.tmp 2)⟩,
 ⟨some 10, none, .bin .add (.tmp 9) (.const (.int .i64 1))⟩,
 ⟨some 8, none, .mov (.tmp 10)⟩])
 (.block 0 (.loop (.seq (.seq (.ops [⟨some 11, none, .mov (.tmp 8)⟩,
 ⟨some 12, none, .mov (.tmp 1)⟩,
 ⟨some 13, none, .mov (.tmp 2)⟩,
 ⟨some 14, none, .iad 1 (.tmp 12) (.tmp 13)⟩,
 ⟨some 15, none, .ld1 (.tmp 14)⟩,
 ⟨some 16, none, .bin .lss (.tmp 11) (.tmp 15)⟩])
 (.cond (.tmp 16)
 .skip
 (.exit 0)))
 (.seq (.block 1 (.ops [⟨some 21, none, .mov (.tmp 7)⟩,
 ⟨some 22, none, .mov (.tmp 8)⟩,
 ⟨some 23, none, .lits [(.int .i64 0)] 1 [(0, 1, (.tmp 22))]⟩,
 ⟨some 24, none, .app 1 8 none (.tmp 21) (.tmp 23)⟩,
 ⟨some 7, none, .mov (.tmp 24)⟩]))
 (.ops [⟨some 17, none, .mov (.tmp 1)⟩,
 ⟨some 18, none, .mov (.tmp 8)⟩,
 ⟨some 19, none, .iad 1 (.tmp 17) (.tmp 18)⟩,
 ⟨some 20, none, .ld1 (.tmp 19)⟩,
 ⟨some 8, none, .mov (.tmp 20)⟩]))))))
 (.seq (.ops [⟨some 25, none, .mov (.tmp 7)⟩,
 ⟨some 6, none, .mov (.tmp 25)⟩])
 .ret))))⟩
theorem ok69 : compF Tryz.prog Tryz.f69 = some c69 := by kernel_rfl
def c70 : CF := ⟨13, [.tmp 2],
 (.seq (.ops [⟨some 2, none, .mov (.const (.bool false))⟩])
 (.seq (.ops [⟨some 3, none, .mov (.tmp 0)⟩,
 ⟨some 4, none, .bin .geq (.tmp 3) (.const (.int .i64 1))⟩,
 ⟨some 5, none, .mov (.tmp 4)⟩,
 ⟨some 6, (some (5, true)), .mov (.tmp 0)⟩,
 ⟨some 7, (some (5, true)), .bin .leq (.tmp 6) (.const (.int .i64 6))⟩,
 ⟨some 8, none, .pick (.tmp 5) (.tmp 7) (.const (.bool false))⟩,
 ⟨some 9, none, .mov (.tmp 8)⟩,
 ⟨some 10, (some (9, false)), .mov (.tmp 0)⟩,
 ⟨some 11, (some (9, false)), .bin .eql (.tmp 10) (.const (.int .i64 8))⟩,
 ⟨some 12, none, .pick (.tmp 9) (.const (.bool true)) (.tmp 11)⟩,
 ⟨some 2, none, .mov (.tmp 12)⟩])
 .ret))⟩
theorem ok70 : compF Tryz.prog Tryz.f70 = some c70 := by kernel_rfl
def c71 : CF := ⟨58, [.cells 0 125],
 (.seq (.ops [⟨some 0, none, .newz [(.int .i64 0), (.int .i64 0), (.int .i64 0), (.int .i64 0), (.slice none 0 0), (.int .i64 0), (.int .i64 0), (.int .i64 0), (.int .i64 0), (.slice none 0 0), (.int .i64 0), (.int .i64 0), (.int .i64 0), (.int .i64 0), (.slice none 0 0), (.int .i64 0), (.int .i64 0), (.int .i64 0), (.int .i64 0), (.slice none 0 0), (.int .i64 0), (.int .i64 0), (.int .i64 0), (.int .i64 0), (.slice none 0 0), (.int .i64 0), (.int .i64 0), (.int .i64 0), (.int .i64 0), (.slice none 0 0), (.int .i64 0), (.int .i64 0), (.int .i64 0), (.int .i64 0), (.slice none 0 0), (.int .i64 0), (.int .i64 0), (.int .i64 0), (.int .i64 0), (.slice none 0 0), (.int .i64 0), (.int .i64 0), (.int .i64 0), (.int .i64 0), (.slice none 0 0), (.int .i64 0), (.int .i64 0), (.int .i64 0), (.int .i64 0), (.slice none 0 0), (.int .i64 0), (.int .i64 0), (.int .i64 0), (.int .i64 0), (.slice none 0 0), (.int .i64 0), (.int .i64 0), (.int .i64 0), (.int .i64 0), (.slice none 0 0), (.int .i64 0), (.int .i64 0), (.int .i64 0), (.int .i64 0), (.slice none 0 0), (.int .i64 0), (.int .i64 0), (.int .i64 0), (.int .i64 0), (.slice none 0 0), (.int .i64 0), (.int .i64 0), (.int .i64 0), (.int .i64 0), (.slice none 0 0), (.int .i64 0), (.int .i64 0), (.int .i64 0), (.int .i64 0), (.slice none 0 0), (.int .i64 0), (.int .i64 0), (.int .i64 0), (.int .i64 0), (.slice none 0 0), (.int .i64 0), (.int .i64 0), (.int .i64 0), (.int .i64 0), (.slice none 0 0), (.int .i64 0), (.int .i64 0), (.int .i64 0), (.int .i64 0), (.slice none 0 0), (.int .i64 0), (.int .i64 0), (.int .i64 0), (.int .i64 0), (.slice none 0 0), (.int .i64 0), (.int .i64 0), (.int .i64 0), (.int .i64 0), (.slice none 0 0), (.int .i64 0), (.int .i64 0), (.int .i64 0), (.int .i64 0), (.slice none 0 0), (.int .i64 0), (.int .i64 0), (.int .i64 0), (.int .i64 0), (.slice none 0 0), (.int .i64 0), (.int .i64 0), (.int .i64 0), (.int .i64 0), (.slice none 0 0), (.int .i64 0), (.int .i64 0), (.int .i64 0), (.int .i64 0), (.slice none 0 0)]⟩])
 (.seq (.ops [⟨some 4, none, .lits [(.int .i64 0), (.int .i64 0), (.int .i64 0)] 3 [(0, 1, (.const (.int .i64 0))), (1, 1, (.const (.int .i64 6))), (2, 1, (.const (.int .i64 5)))]⟩,
 ⟨some 5, none, .lits [(.int .i64 0), (.int .i64 0)] 2 [(0, 1, (.const (.int .i64 0))), (1, 1, (.const (.int .i64 6)))]⟩,
 ⟨some 6, none, .lits [(.int .i64 0), (.int .i64 0), (.int .i64 0), (.int .i64 0)] 4 [(0, 1, (.const (.int .i64 1))), (1, 1, (.const (.int .i64 0))), (2, 1, (.const (.int .i64 6))), (3, 1, (.const (.int .i64 5)))]⟩,
 ⟨some 1, none, .mov (.tmp 4)⟩,
 ⟨some 2, none, .mov (.tmp 5)⟩,
 ⟨some 3, none, .mov (.tmp 6)⟩])
 (.seq (.draw [⟨some 7, none, .mov (.tmp 3)⟩,
 ⟨some 8, none, .agg [(.int .i64 0), (.int .i64 0), (.int .i64 0), (.int .i64 0), (.slice none 0 0)] [(0, 1, (.const (.int .i64 0))), (1, 1, (.const (.int .i64 0))), (2, 1, (.const (.int .i64 0))), (3, 1, (.const (.int .i64 0))), (4, 1, (.tmp 7))]⟩,
 ⟨some 9, none, .mov (.tmp 3)⟩,
 ⟨some 10, none, .agg [(.int .i64 0), (.int .i64 0), (.int .i64 0), (.int .i64 0), (.slice none 0 0)] [(0, 1, (.const (.int .i64 0))), (1, 1, (.const (.int .i64 0))), (2, 1, (.const (.int .i64 0))), (3, 1, (.const (.int .i64 0))), (4, 1, (.tmp 9))]⟩,
 ⟨some 11, none, .mov (.tmp 1)⟩,
 ⟨some 12, none, .agg [(.int .i64 0), (.int .i64 0), (.int .i64 0), (.int .i64 0), (.slice none 0 0)] [(0, 1, (.const (.int .i64 1))), (1, 1, (.const (.int .i64 1))), (2, 1, (.const (.int .i64 1))), (3, 1, (.const (.int .i64 1))), (4, 1, (.tmp 11))]⟩,
 ⟨some 13, none, .mov (.tmp 3)⟩,
 ⟨some 14, none, .sl 1 (.tmp 13) none (some (.const (.int .i64 1))) none⟩,
 ⟨some 15, none, .agg [(.int .i64 0), (.int .i64 0), (.int .i64 0), (.int .i64 0), (.slice none 0 0)] [(0, 1, (.const (.int .i64 0))), (1, 1, (.const (.int .i64 0))), (2, 1, (.const (.int .i64 0))), (3, 1, (.const (.int .i64 0))), (4, 1, (.tmp 14))]⟩,
 ⟨some 16, none, .mov (.tmp 3)⟩,
 ⟨some 17, none, .sl 1 (.tmp 16) none (some (.const (.int .i64 1))) none⟩,
 ⟨some 18, none, .agg [(.int .i64 0), (.int .i64 0), (.int .i64 0), (.int .i64 0), (.slice none 0 0)] [(0, 1, (.const (.int .i64 0))), (1, 1, (.const (.int .i64 (-1)))), (2, 1, (.const (.int .i64 1))), (3, 1, (.const (.int .i64 1))), (4, 1, (.tmp 17))]⟩,
 ⟨some 19, none, .mov (.tmp 2)⟩,
 ⟨some 20, none, .agg [(.int .i64 0), (.int .i64 0), (.int .i64 0), (.int .i64 0), (.slice none 0 0)] [(0, 1, (.const (.int .i64 0))), (1, 1, (.const (.int .i64 0))), (2, 1, (.const (.int .i64 0))), (3, 1, (.const (.int .i64 0))), (4, 1, (.tmp 19))]⟩,
 ⟨some 21, none, .lits [(.int .i64 0)] 1 [(0, 1, (.const (.int .i64 2)))]⟩,
 ⟨some 22, none, .agg [(.int .i64 0), (.int .i64 0), (.int .i64 0), (.int .i64 0), (.slice none 0 0)] [(0, 1, (.const (.int .i64 0))), (1, 1, (.const (.int .i64 0))), (2, 1, (.const (.int .i64 0))), (3, 1, (.const (.int .i64 0))), (4, 1, (.tmp 21))]⟩,
 ⟨some 23, none, .mov (.tmp 1)⟩,
 ⟨some 24, none, .agg [(.int .i64 0), (.int .i64 0), (.int .i64 0), (.int .i64 0), (.slice none 0 0)] [(0, 1, (.const (.int .i64 0))), (1, 1, (.const (.int .i64 0))), (2, 1, (.const (.int .i64 0))), (3, 1, (.const (.int .i64 0))), (4, 1, (.tmp 23))]⟩,
 ⟨some 25, none, .mov (.tmp 1)⟩,
 ⟨some 26, none, .agg [(.int .i64 0), (.int .i64 0), (.int .i64 0), (.int .i64 0), (.slice none 0 0)] [(0, 1, (.const (.int .i64 1))), (1, 1, (.const (.int .i64 (-1)))), (2, 1, (.const (.int .i64 2))), (3, 1, (.const (.int .i64 0))), (4, 1, (.tmp 25))]⟩,
 ⟨some 27, none, .mov (.tmp 2)⟩,
 ⟨some 28, none, .agg [(.int .i64 0), (.int .i64 0), (.int .i64 0), (.int .i64 0), (.slice none 0 0)] [(0, 1, (.const (.int .i64 1))), (1, 1, (.const (.int .i64 (-1)))), (2, 1, (.const (.int .i64 0))), (3, 1, (.const (.int .i64 0))), (4, 1, (.tmp 27))]⟩,
 ⟨some 29, none, .mov (.tmp 2)⟩,
 ⟨some 30, none, .agg [(.int .i64 0), (.int .i64 0), (.int .i64 0), (.int .i64 0), (.slice none 0 0)] [(0, 1, (.const (.int .i64 3))), (1, 1, (.const (.int .i64 3))), (2, 1, (.const (.int .i64 0))), (3, 1, (.const (.int .i64 0))), (4, 1, (.tmp 29))]⟩,
 ⟨some 31, none, .mov (.tmp 2)⟩,
 ⟨some 32, none, .agg [(.int .i64 0), (.int .i64 0), (.int .i64 0), (.int .i64 0), (.slice none 0 0)] [(0, 1, (.const (.int .i64 1))), (1, 1, (.const (.int .i64 (-1)))), (2, 1, (.const (.int .i64 2))), (3, 1, (.const (.int .i64 0))), (4, 1, (.tmp 31))]⟩,
 ⟨some 33, none, .mov (.tmp 2)⟩,
 ⟨some 34, none, .agg [(.int .i64 0), (.int .i64 0), (.int .i64 0), (.int .i64 0), (.slice none 0 0)] [(0, 1, (.const (.int .i64 1))), (1, 1, (.const (.int .i64 (-1)))), (2, 1, (.const (.int .i64 2))), (3, 1, (.const (.int .i64 0))), (4, 1, (.tmp 33))]⟩,
 ⟨some 35, none, .mov (.tmp 2)⟩,
 ⟨some 36, none, .agg [(.int .i64 0), (.int .i64 0), (.int .i64 0), (.int .i64 0), (.slice none 0 0)] [(0, 1, (.const (.int .i64 1))), (1, 1, (.const (.int .i64 (-1)))), (2, 1, (.const (.int .i64 2))), (3, 1, (.const (.int .i64 0))), (4, 1, (.tmp 35))]⟩,
 ⟨some 37, none, .mov (.tmp 2)⟩,
 ⟨some 38, none, .agg [(.int .i64 0), (.int .i64 0), (.int .i64 0), (.int .i64 0), (.slice none 0 0)] [(0, 1, (.const (.int .i64 1))), (1, 1, (.const (.int .i64 (-1)))), (2, 1, (.const (.int .i64 3))), (3, 1, (.const (.int .i64 4))), (4, 1, (.tmp 37))]⟩,
 ⟨some 39, none, .lits [(.int .i64 0)] 1 [(0, 1, (.const (.int .i64 3)))]⟩,
 ⟨some 40, none, .agg [(.int .i64 0), (.int .i64 0), (.int .i64 0), (.int .i64 0), (.slice none 0 0)] [(0, 1, (.const (.int .i64 2))), (1, 1, (.const (.int .i64 2))), (2, 1, (.const (.int .i64 0))), (3, 1, (.const (.int .i64 0))), (4, 1, (.tmp 39))]⟩,
 ⟨some 41, none, .lits [(.int .i64 0)] 1 [(0, 1, (.const (.int .i64 4)))]⟩,
 ⟨some 42, none, .agg [(.int .i64 0), (.int .i64 0), (.int .i64 0), (.int .i64 0), (.slice none 0 0)] [(0, 1, (.const (.int .i64 1))), (1, 1, (.const (.int .i64 1))), (2, 1, (.const (.int .i64 0))), (3, 1, (.const (.int .i64 0))), (4, 1, (.tmp 41))]⟩,
 ⟨some 43, none, .mov (.tmp 2)⟩,
 ⟨some 44, none, .agg [(.int .i64 0), (.int .i64 0), (.int .i64 0), (.int .i64 0), (.slice none 0 0)] [(0, 1, (.const (.int .i64 0))), (1, 1, (.const (.int .i64 (-1)))), (2, 1, (.const (.int .i64 0))), (3, 1, (.const (.int .i64 0))), (4, 1, (.tmp 43))]⟩,
 ⟨some 45, none, .mov (.tmp 2)⟩,
 ⟨some 46, none, .agg [(.int .i64 0), (.int .i64 0), (.int .i64 0), (.int .i64 0), (.slice none 0 0)] [(0, 1, (.const (.int .i64 0))), (1, 1, (.const (.int .i64 (-1)))), (2, 1, (.const (.int .i64 0))), (3, 1, (.const (.int .i64 0))), (4, 1, (.tmp 45))]⟩,
 ⟨some 47, none, .mov (.tmp 2)⟩,
 ⟨some 48, none, .agg [(.int .i64 0), (.int .i64 0), (.int .i64 0), (.int .i64 0), (.slice none 0 0)] [(0, 1, (.const (.int .i64 2))), (1, 1, (.const (.int .i64 2))), (2, 1, (.const (.int .i64 0))), (3, 1, (.const (.int .i64 0))), (4, 1, (.tmp 47))]⟩,
 ⟨some 49, none, .mov (.tmp 2)⟩,
 ⟨some 50, none, .agg [(.int .i64 0), (.int .i64 0), (.int .i64 0), (.int .i64 0), (.slice none 0 0)] [(0, 1, (.const (.int .i64 2))), (1, 1, (.const (.int .i64 2))), (2, 1, (.const (.int .i64 0))), (3, 1, (.const (.int .i64 0))), (4, 1, (.tmp 49))]⟩,
 ⟨some 51, none, .mov (.tmp 2)⟩,
 ⟨some 52, none, .agg [(.int .i64 0), (.int .i64 0), (.int .i64 0), (.int .i64 0), (.slice none 0 0)] [(0, 1, (.const (.int .i64 1))), (1, 1, (.const (.int .i64 (-1)))), (2, 1, (.const (.int .i64 0))), (3, 1, (.const (.int .i64 0))), (4, 1, (.tmp 51))]⟩,
 ⟨some 53, none, .mov (.tmp 2)⟩,
 ⟨some 54, none, .agg [(.int .i64 0), (.int .i64 0), (.int .i64 0), (.int .i64 0), (.slice none 0 0)] [(0, 1, (.const (.int .i64 0))), (1, 1, (.const (.int .i64 (-1)))), (2, 1, (.const (.int .i64 0))), (3, 1, (.const (.int .i64 0))), (4, 1, (.tmp 53))]⟩,
 ⟨some 55, none, .mov (.tmp 1)⟩,
 ⟨some 56, none, .agg [(.int .i64 0), (.int .i64 0), (.int .i64 0), (.int .i64 0), (.slice none 0 0)] [(0, 1, (.const (.int .i64 2))), (1, 1, (.const (.int .i64 2))), (2, 1, (.const (.int .i64 5))), (3, 1, (.const (.int .i64 5))), (4, 1, (.tmp 55))]⟩,
 ⟨some 57, none, .agg [(.int .i64 0), (.int .i64 0), (.int .i64 0), (.int .i64 0), (.slice none 0 0), (.int .i64 0), (.int .i64 0), (.int .i64 0), (.int .i64 0), (.slice none 0 0), (.int .i64 0), (.int .i64 0), (.int .i64 0), (.int .i64 0), (.slice none 0 0), (.int .i64 0), (.int .i64 0), (.int .i64 0), (.int .i64 0), (.slice none 0 0), (.int .i64 0), (.int .i64 0), (.int .i64 0), (.int .i64 0), (.slice none 0 0), (.int .i64 0), (.int .i64 0), (.int .i64 0), (.int .i64 0), (.slice none 0 0), (.int .i64 0), (.int .i64 0), (.int .i64 0), (.int .i64 0), (.slice none 0 0), (.int .i64 0), (.int .i64 0), (.int .i64 0), (.int .i64 0), (.slice none 0 0), (.int .i64 0), (.int .i64 0), (.int .i64 0), (.int .i64 0), (.slice none 0 0), (.int .i64 0), (.int .i64 0), (.int .i64 0), (.int .i64 0), (.slice none 0 0), (.int .i64 0), (.int .i64 0), (.int .i64 0), (.int .i64 0), (.slice none 0 0), (.int .i64 0), (.int .i64 0), (.int .i64 0), (.int .i64 0), (.slice none 0 0), (.int .i64 0), (.int .i64 0), (.int .i64 0), (.int .i64 0), (.slice none 0 0), (.int .i64 0), (.int .i64 0), (.int .i64 0), (.int .i64 0), (.slice none 0 0), (.int .i64 0), (.int .i64 0), (.int .i64 0), (.int .i64 0), (.slice none 0 0), (.int .i64 0), (.int .i64 0), (.int .i64 0), (.int .i64 0), (.slice none 0 0), (.int .i64 0), (.int .i64 0), (.int .i64 0), (.int .i64 0), (.slice none 0 0), (.int .i64 0), (.int .i64 0), (.int .i64 0), (.int .i64 0), (.slice none 0 0), (.int .i64 0), (.int .i64 0), (.int .i64 0), (.int .i64 0), (.slice none 0 0), (.int .i64 0), (.int .i64 0), (.int .i64 0), (.int .i64 0), (.slice none 0 0), (.int .i64 0), (.int .i64 0), (.int .i64 0), (.int .i64 0), (.slice none 0 0), (.int .i64 0), (.int .i64 0), (.int .i64 0), (.int .i64 0), (.slice none 0 0), (.int .i64 0), (.int .i64 0), (.int .i64 0), (.int .i64 0), (.slice none 0 0), (.int .i64 0), (.int .i64 0), (.int .i64 0), (.int .i64 0), (.slice none 0 0), (.int .i64 0), (.int .i64 0), (.int .i64 0), (.int .i64 0), (.slice none 0 0)] [(5, 5, (.tmp 8)), (10, 5, (.tmp 10)), (15, 5, (.tmp 12)), (20, 5, (.tmp 15)), (25, 5, (.tmp 18)), (30, 5, (.tmp 20)), (45, 5, (.tmp 22)), (35, 5, (.tmp 24)), (40, 5, (.tmp 26)), (50, 5, (.tmp 28)), (55, 5, (.tmp 30)), (60, 5, (.tmp 32)), (65, 5, (.tmp 34)), (70, 5, (.tmp 36)), (75, 5, (.tmp 38)), (80, 5, (.tmp 40)), (85, 5, (.tmp 42)), (90, 5, (.tmp 44)), (95, 5, (.tmp 46)), (100, 5, (.tmp 48)), (105, 5, (.tmp 50)), (110, 5, (.tmp 52)), (115, 5, (.tmp 54)), (120, 5, (.tmp 56))]⟩,
 ⟨none, none, .st 125 (.tmp 0) (.tmp 57)⟩] [(0, 2), (1, 2), (0, 3), (1, 3), (0, 4), (1, 4), (2, 4), (3, 4), (0, 5), (1, 5), (2, 5), (3, 5), (0, 6), (1, 6), (2, 6), (3, 6), (4, 6), (5, 6), (0, 7), (1, 7), (2, 7), (3, 7), (4, 7), (5, 7), (0, 8), (1, 8), (2, 8), (3, 8), (4, 8), (5, 8), (0, 9), (1, 9), (2, 9), (3, 9), (4, 9), (5, 9), (6, 9), (7, 9), (8, 9), (0, 10), (1, 10), (2, 10), (3, 10), (4, 10), (5, 10), (6, 10), (7, 10), (8, 10), (0, 11), (1, 11), (2, 11), (3, 11), (4, 11), (5, 11), (6, 11), (7, 11), (8, 11), (0, 12), (1, 12), (2, 12), (3, 12), (4, 12), (5, 12), (6, 12), (7, 12), (8, 12), (9, 12), (10, 12), (11, 12), (0, 13), (1, 13), (2, 13), (3, 13), (4, 13), (5, 13), (6, 13), (7, 13), (8, 13), (9, 13), (10, 13), (11, 13), (0, 14), (1, 14), (2, 14), (3, 14), (4, 14), (5, 14), (6, 14), (7, 14), (8, 14), (9, 14), (10, 14), (11, 14), (12, 14), (13, 14), (0, 15), (1, 15), (2, 15), (3, 15), (4, 15), (5, 15), (6, 15), (7, 15), (8, 15), (9, 15), (10, 15), (11, 15), (12, 15), (13, 15), (0, 16), (1, 16), (2, 16), (3, 16), (4, 16), (5, 16), (6, 16), (7, 16), (8, 16), (9, 16), (10, 16), (11, 16), (12, 16), (13, 16), (14, 16), (15, 16), (0, 17), (1, 17), (2, 17), (3, 17), (4, 17), (5, 17), (6, 17), (7, 17), (8, 17), (9, 17), (10, 17), (11, 17), (12, 17), (13, 17), (14, 17), (15, 17), (0, 18), (1, 18), (2, 18), (3, 18), (4, 18), (5, 18), (6, 18), (7, 18), (8, 18), (9, 18), (10, 18), (11, 18), (12, 18), (13, 18), (14, 18), (15, 18), (16, 18), (17, 18), (0, 19), (1, 19), (2, 19), (3, 19), (4, 19), (5, 19), (6, 19), (7, 19), (8, 19), (9, 19), (10, 19), (11, 19), (12, 19), (13, 19), (14, 19), (15, 19), (16, 19), (17, 19), (0, 20), (1, 20), (2, 20), (3, 20), (4, 20), (5, 20), (6, 20), (7, 20), (8, 20), (9, 20), (10, 20), (11, 20), (12, 20), (13, 20), (14, 20), (15, 20), (16, 20), (17, 20), (18, 20), (19, 20), (0, 21), (1, 21), (2, 21), (3, 21), (4, 21), (5, 21), (6, 21), (7, 21), (8, 21), (9, 21), (10, 21), (11, 21), (12, 21), (13, 21), (14, 21), (15, 21), (16, 21), (17, 21), (18, 21), (19, 21), (0, 22), (1, 22), (2, 22), (3, 22), (4, 22), (5, 22), (6, 22), (7, 22), (8, 22), (9, 22), (10, 22), (11, 22), (12, 22), (13, 22), (14, 22), (15, 22), (16, 22), (17, 22), (18, 22), (19, 22), (20, 22), (21, 22), (0, 23), (1, 23), (2, 23), (3, 23), (4, 23), (5, 23), (6, 23), (7, 23), (8, 23), (9, 23), (10, 23), (11, 23), (12, 23), (13, 23), (14, 23), (15, 23), (16, 23), (17, 23), (18, 23), (19, 23), (20, 23), (21, 23), (0, 24), (1, 24), (2, 24), (3, 24), (4, 24), (5, 24), (6, 24), (7, 24), (8, 24), (9, 24), (10, 24), (11, 24), (12, 24), (13, 24), (14, 24), (15, 24), (16, 24), (17, 24), (18, 24), (19, 24), (20, 24), (21, 24), (22, 24), (23, 24), (0, 25), (1, 25), (2, 25), (3, 25), (4, 25), (5, 25), (6, 25), (7, 25), (8, 25), (9, 25), (10, 25), (11, 25), (12, 25), (13, 25), (14, 25), (15, 25), (16, 25), (17, 25), (18, 25), (19, 25), (20, 25), (21, 25), (22, 25), (23, 25), (0, 26), (1, 26), (2, 26), (3, 26), (4, 26), (5, 26), (6, 26), (7, 26), (8, 26), (9, 26), (10, 26), (11, 26), (12, 26), (13, 26), (14, 26), (15, 26), (16, 26), (17, 26), (18, 26), (19, 26), (20, 26), (21, 26), (22, 26), (23, 26), (24, 26), (25, 26), (0, 27), (1, 27), (2, 27), (3, 27), (4, 27), (5, 27), (6, 27), (7, 27), (8, 27), (9, 27), (10, 27), (11, 27), (12, 27), (13, 27), (14, 27), (15, 27), (16, 27), (17, 27), (18, 27), (19, 27), (20, 27), (21, 27), (22, 27), (23, 27), (24, 27), (25, 27), (0, 28), (1, 28), (2, 28), (3, 28), (4, 28), (5, 28), (6, 28), (7, 28), (8, 28), (9, 28), (10, 28), (11, 28), (12, 28), (13, 28), (14, 28), (15, 28), (16, 28), (17, 28), (18, 28), (19, 28), (20, 28), (21, 28), (22, 28), (23, 28), (24, 28), (25, 28), (26, 28), (27, 28), (0, 29), (1, 29), (2, 29), (3, 29), (4, 29), (5, 29), (6, 29), (7, 29), (8, 29), (9, 29), (10, 29), (11, 29), (12, 29), (13, 29), (14, 29), (15, 29), (16, 29), (17, 29), (18, 29), (19, 29), (20, 29), (21, 29), (22, 29), (23, 29), (24, 29), (25, 29), (26, 29), (27, 29), (0, 30), (1, 30), (2, 30), (3, 30), (4, 30), (5, 30), (6, 30), (7, 30), (8, 30), (9, 30), (10, 30), (11, 30), (12, 30), (13, 30), (14, 30), (15, 30), (16, 30), (17, 30), (18, 30), (19, 30), (20, 30), (21, 30), (22, 30), (23, 30), (24, 30), (25, 30), (26, 30), (27, 30), (28, 30), (29, 30), (0, 31), (1, 31), (2, 31), (3, 31), (4, 31), (5, 31), (6, 31), (7, 31), (8, 31), (9, 31), (10, 31), (11, 31), (12, 31), (13, 31), (14, 31), (15, 31), (16, 31), (17, 31), (18, 31), (19, 31), (20, 31), (21, 31), (22, 31), (23, 31), (24, 31), (25, 31), (26, 31), (27, 31), (28, 31), (29, 31), (0, 32), (1, 32), (2, 32), (3, 32), (4, 32), (5, 32), (6, 32), (7, 32), (8, 32), (9, 32), (10, 32), (11, 32), (12, 32), (13, 32), (14, 32), (15, 32), (16, 32), (17, 32), (18, 32), (19, 32), (20, 32), (21, 32), (22, 32), (23, 32), (24, 32), (25, 32), (26, 32), (27, 32), (28, 32), (29, 32), (30, 32), (31, 32), (0, 33), (1, 33), (2, 33), (3, 33), (4, 33), (5, 33), (6, 33), (7, 33), (8, 33), (9, 33), (10, 33), (11, 33), (12, 33), (13, 33), (14, 33), (15, 33), (16, 33), (17, 33), (18, 33), (19, 33), (20, 33), (21, 33), (22, 33), (23, 33), (24, 33), (25, 33), (26, 33), (27, 33), (28, 33), (29, 33), (30, 33), (31, 33), (0, 34), (1, 34), (2, 34), (3, 34), (4, 34), (5, 34), (6, 34), (7, 34), (8, 34), (9, 34), (10, 34), (11, 34), (12, 34), (13, 34), (14, 34), (15, 34), (16, 34), (17, 34), (18, 34), (19, 34), (20, 34), (21, 34), (22, 34), (23, 34), (24, 34), (25, 34), (26, 34), (27, 34), (28, 34), (29, 34), (30, 34), (31, 34), (32, 34), (33, 34), (0, 35), (1, 35), (2, 35), (3, 35), (4, 35), (5, 35), (6, 35), (7, 35), (8, 35), (9, 35), (10, 35), (11, 35), (12, 35), (13, 35), (14, 35), (15, 35), (16, 35), (17, 35), (18, 35), (19, 35), (20, 35), (21, 35), (22, 35), (23, 35), (24, 35), (25, 35), (26, 35), (27, 35), (28, 35), (29, 35), (30, 35), (31, 35), (32, 35), (33, 35), (0, 36), (1, 36), (2, 36), (3, 36), (4, 36), (5, 36), (6, 36), (7, 36), (8, 36), (9, 36), (10, 36), (11, 36), (12, 36), (13, 36), (14, 36), (15, 36), (16, 36), (17, 36), (18, 36), (19, 36), (20, 36), (21, 36), (22, 36), (23, 36), (24, 36), (25, 36), (26, 36), (27, 36), (28, 36), (29, 36), (30, 36), (31, 36), (32, 36), (33, 36), (34, 36), (35, 36), (0, 37), (1, 37), (2, 37), (3, 37), (4, 37), (5, 37), (6, 37), (7, 37), (8, 37), (9, 37), (10, 37), (11, 37), (12, 37), (13, 37), (14, 37), (15, 37), (16, 37), (17, 37), (18, 37), (19, 37), (20, 37), (21, 37), (22, 37), (23, 37), (24, 37), (25, 37), (26, 37), (27, 37), (28, 37), (29, 37), (30, 37), (31, 37), (32, 37), (33, 37), (34, 37), (35, 37), (0, 38), (1, 38), (2, 38), (3, 38), (4, 38), (5, 38), (6, 38), (7, 38), (8, 38), (9, 38), (10, 38), (11, 38), (12, 38), (13, 38), (14, 38), (15, 38), (16, 38), (17, 38), (18, 38), (19, 38), (20, 38), (21, 38), (22, 38), (23, 38), (24, 38), (25, 38), (26, 38), (27, 38), (28, 38), (29, 38), (30, 38), (31, 38), (32, 38), (33, 38), (34, 38), (35, 38), (36, 38), (37, 38), (0, 39), (1, 39), (2, 39), (3, 39), (4, 39), (5, 39), (6, 39), (7, 39), (8, 39), (9, 39), (10, 39), (11, 39), (12, 39), (13, 39), (14, 39), (15, 39), (16, 39), (17, 39), (18, 39), (19, 39), (20, 39), (21, 39), (22, 39), (23, 39), (24, 39), (25, 39), (26, 39), (27, 39), (28, 39), (29, 39), (30, 39), (31, 39), (32, 39), (33, 39), (34, 39), (35, 39), (36, 39), (37, 39), (0, 40), (1, 40), (2, 40), (3, 40), (4, 40), (5, 40), (6, 40), (7, 40), (8, 40), (9, 40), (10, 40), (11, 40), (12, 40), (13, 40), (14, 40), (15, 40), (16, 40), (17, 40), (18, 40), (19, 40), (20, 40), (21, 40), (22, 40), (23, 40), (24, 40), (25, 40), (26, 40), (27, 40), (28, 40), (29, 40), (30, 40), (31, 40), (32, 40), (33, 40), (34, 40), (35, 40), (36, 40), (37, 40), (38, 40), (39, 40), (0, 41), (1, 41), (2, 41), (3, 41), (4, 41), (5, 41), (6, 41), (7, 41), (8, 41), (9, 41), (10, 41), (11, 41), (12, 41), (13, 41), (14, 41), (15, 41), (16, 41), (17, 41), (18, 41), (19, 41), (20, 41), (21, 41), (22, 41), (23, 41), (24, 41), (25, 41), (26, 41), (27, 41), (28, 41), (29, 41), (30, 41), (31, 41), (32, 41), (33, 41), (34, 41), (35, 41), (36, 41), (37, 41), (38, 41), (39, 41), (0, 42), (1, 42), (2, 42), (3, 42), (4, 42), (5, 42), (6, 42), (7, 42), (8, 42), (9, 42), (10, 42), (11, 42), (12, 42), (13, 42), (14, 42), (15, 42), (16, 42), (17, 42), (18, 42), (19, 42), (20, 42), (21, 42), (22, 42), (23, 42), (24, 42), (25, 42), (26, 42), (27, 42), (28, 42), (29, 42), (30, 42), (31, 42), (32, 42), (33, 42), (34, 42), (35, 42), (36, 42), (37, 42), (38, 42), (39, 42), (40, 42), (41, 42), (0, 43), (1, 43), (2, 43), (3, 43), (4, 43), (5, 43), (6, 43), (7, 43), (8, 43), (9, 43), (10, 43), (11, 43), (12, 43), (13, 43), (14, 43), (15, 43), (16, 43), (17, 43), (18, 43), (19, 43), (20, 43), (21, 43), (22, 43), (23, 43), (24, 43), (25, 43), (26, 43), (27, 43), (28, 43), (29, 43), (30, 43), (31, 43), (32, 43), (33, 43), (34, 43), (35, 43), (36, 43), (37, 43), (38, 43), (39, 43), (40, 43), (41, 43), (0, 44), (1, 44), (2, 44), (3, 44), (4, 44), (5, 44), (6, 44), (7, 44), (8, 44), (9, 44), (10, 44), (11, 44), (12, 44), (13, 44), (14, 44), (15, 44), (16, 44), (17, 44), (18, 44), (19, 44), (20, 44), (21, 44), (22, 44), (23, 44), (24, 44), (25, 44), (26, 44), (27, 44), (28, 44), (29, 44), (30, 44), (31, 44), (32, 44), (33, 44), (34, 44), (35, 44), (36, 44), (37, 44), (38, 44), (39, 44), (40, 44), (41, 44), (42, 44), (43, 44), (0, 45), (1, 45), (2, 45), (3, 45), (4, 45), (5, 45), (6, 45), (7, 45), (8, 45), (9, 45), (10, 45), (11, 45), (12, 45), (13, 45), (14, 45), (15, 45), (16, 45), (17, 45), (18, 45), (19, 45), (20, 45), (21, 45), (22, 45), (23, 45), (24, 45), (25, 45), (26, 45), (27, 45), (28, 45), (29, 45), (30, 45), (31, 45), (32, 45), (33, 45), (34, 45), (35, 45), (36, 45), (37, 45), (38, 45), (39, 45), (40, 45), (41, 45), (42, 45), (43, 45), (0, 46), (1, 46), (2, 46), (3, 46), (4, 46), (5, 46), (6, 46), (7, 46), (8, 46), (9, 46), (10, 46), (11, 46), (12, 46), (13, 46), (14, 46), (15, 46), (16, 46), (17, 46), (18, 46), (19, 46), (20, 46), (21, 46), (22, 46), (23, 46), (24, 46), (25, 46), (26, 46), (27, 46), (28, 46), (29, 46), (30, 46), (31, 46), (32, 46), (33, 46), (34, 46), (35, 46), (36, 46), (37, 46), (38, 46), (39, 46), (40, 46), (41, 46), (42, 46), (43, 46), (44, 46), (45, 46), (0, 47), (1, 47), (2, 47), (3, 47), (4, 47), (5, 47), (6, 47), (7, 47), (8, 47), (9, 47), (10, 47), (11, 47), (12, 47), (13, 47), (14, 47), (15, 47), (16, 47), (17, 47), (18, 47), (19, 47), (20, 47), (21, 47), (22, 47), (23, 47), (24, 47), (25, 47), (26, 47), (27, 47), (28, 47), (29, 47), (30, 47), (31, 47), (32, 47), (33, 47), (34, 47), (35, 47), (36, 47), (37, 47), (38, 47), (39, 47), (40, 47), (41, 47), (42, 47), (43, 47), (44, 47), (45, 47), (0, 48), (1, 48), (2, 48), (3, 48), (4, 48), (5, 48), (6, 48), (7, 48), (8, 48), (9, 48), (10, 48), (11, 48), (12, 48), (13, 48), (14, 48), (15, 48), (16, 48), (17, 48), (18, 48), (19, 48), (20, 48), (21, 48), (22, 48), (23, 48), (24, 48), (25, 48), (26, 48), (27, 48), (28, 48), (29, 48), (30, 48), (31, 48), (32, 48), (33, 48), (34, 48), (35, 48), (36, 48), (37, 48), (38, 48), (39, 48), (40, 48), (41, 48), (42, 48), (43, 48), (44, 48), (45, 48), (46, 48), (47, 48), (0, 49), (1, 49), (2, 49), (3, 49), (4, 49), (5, 49), (6, 49), (7, 49), (8, 49), (9, 49), (10, 49), (11, 49), (12, 49), (13, 49), (14, 49), (15, 49), (16, 49), (17, 49), (18, 49), (19, 49), (20, 49), (21, 49), (22, 49), (23, 49), (24, 49), (25, 49), (26, 49), (27, 49), (28, 49), (29, 49), (30, 49), (31, 49), (32, 49), (33, 49), (34, 49), (35, 49), (36, 49), (37, 49), (38, 49), (39, 49), (40, 49), (41, 49), (42, 49), (43, 49), (44, 49), (45, 49), (46, 49), (47, 49)])
 .ret)))⟩
theorem ok71 : compF Tryz.prog Tryz.f71 = some c71 := fcompF_ok (bs := [(2, [0, 1, 0, 4, 0, 16, 0, 64, 192, 0, 512, 1536, 0, 4096, 0, 16384, 0, 65536, 0, 262144, 0, 1048576, 0, 4194304, 0, 16777216, 0, 67108864, 0, 268435456, 0, 1073741824, 0, 4294967296, 0, 17179869184, 0, 68719476736, 0, 274877906944, 0, 1099511627776, 0, 4398046511104, 0, 17592186044416, 0, 70368744177664, 0, 281474976710656, 1125899906842623, 2251799813685247])]) (by kernel_rfl)
def c72 : CF := ⟨78, [.cells 2 3],
 (.seq (.ops [⟨some 2, none, .newz [(.int .i64 0), (.int .i64 0), (.int .i64 0)]⟩])
 (.seq (.ops [⟨some 5, none, .mov (.tmp 0)⟩,
 ⟨some 6, none, .nilck (.tmp 5)⟩,
 ⟨some 7, none, .fad (.tmp 6) 1⟩,
 ⟨some 8, none, .ld1 (.tmp 7)⟩,
 ⟨some 9, none, .lnl (.tmp 8)⟩,
 ⟨some 10, none, .bin .sub (.tmp 9) (.const (.int .i64 1))⟩,
 ⟨some 3, none, .mov (.tmp 10)⟩])
 (.seq (.seq (.ops [⟨some 11, none, .mov (.tmp 3)⟩,
 ⟨some 12, none, .bin .lss (.tmp 11) (.const (.int .i64 0))⟩])
 (.cond (.tmp 12)
 (.seq (.ops [⟨some 13, none, .agg [(.int .i64 0), (.int .i64 0), (.int .i64 0)] [(0, 1, (.const (.int .i64 (-1)))), (1, 1, (.const (.int .i64 0))), (2, 1, (.const (.int .i64 0)))]⟩,
 ⟨none, none, .st 3 (.tmp 2) (.tmp 13)⟩])
 .ret)
 .skip))
 (.seq (.seq (.ops [⟨some 14, none, .mov (.tmp 0)⟩,
 ⟨some 15, none, .nilck (.tmp 14)⟩,
 ⟨some 16, none, .fad (.tmp 15) 0⟩,
 ⟨some 17, none, .ld1 (.tmp 16)⟩,
 ⟨some 18, none, .mov (.tmp 3)⟩,
 ⟨some 19, none, .iad 7 (.tmp 17) (.tmp 18)⟩,
 ⟨some 20, none, .fad (.tmp 19) 1⟩,
 ⟨some 21, none, .ld1 (.tmp 20)⟩,
 ⟨some 22, none, .bin .gtr (.tmp 21) (.const (.int .i64 0))⟩])
 (.cond (.tmp 22)
 (.seq (.ops [⟨some 23, none, .mov (.tmp 3)⟩,
 ⟨some 24, none, .mov (.tmp 0)⟩,
 ⟨some 25, none, .nilck (.tmp 24)⟩,
 ⟨some 26, none, .fad (.tmp 25) 1⟩,
 ⟨some 27, none, .ld1 (.tmp 26)⟩,
 ⟨some 28, none, .mov (.tmp 3)⟩,
 ⟨some 29, none, .iad 3 (.tmp 27) (.tmp 28)⟩,
 ⟨some 30, none, .fad (.tmp 29) 2⟩,
 ⟨some 31, none, .ld1 (.tmp 30)⟩,
 ⟨some 32, none, .bin .add (.tmp 31) (.const (.int .i64 1))⟩,
 ⟨some 33, none, .agg [(.int .i64 0), (.int .i64 0), (.int .i64 0)] [(0, 1, (.tmp 23)), (1, 1, (.const (.int .i64 0))), (2, 1, (.tmp 32))]⟩,
 ⟨none, none, .st 3 (.tmp 2) (.tmp 33)⟩])
 .ret)
 .skip))
 (.seq (.block 0 (.loop (.seq (.seq (.ops [⟨some 34, none, .mov (.tmp 3)⟩,
 ⟨some 35, none, .bin .geq (.tmp 34) (.const (.int .i64 0))⟩])
 (.cond (.tmp 35)
 .skip
 (.exit 0)))
 (.seq (.block 1 (.seq (.ops [⟨some 44, none, .mov (.tmp 0)⟩,
 ⟨some 45, none, .nilck (.tmp 44)⟩,
 ⟨some 46, none, .fad (.tmp 45) 1⟩,
 ⟨some 47, none, .ld1 (.tmp 46)⟩,
 ⟨some 48, none, .mov (.tmp 3)⟩,
 ⟨some 49, none, .iad 3 (.tmp 47) (.tmp 48)⟩,
 ⟨some 50, none, .ld 3 (.tmp 49)⟩,
 ⟨some 4, none, .newz [(.int .i64 0), (.int .i64 0), (.int .i64 0)]⟩,
 ⟨none, none, .st 3 (.tmp 4) (.tmp 50)⟩])
 (.seq (.draw [⟨some 51, none, .fad (.tmp 4) 0⟩,
 ⟨some 52, none, .ld1 (.tmp 51)⟩,
 ⟨some 53, none, .bin .geq (.tmp 52) (.const (.int .i64 0))⟩,
 ⟨some 54, none, .mov (.tmp 53)⟩,
 ⟨some 55, (some (54, true)), .fad (.tmp 4) 1⟩,
 ⟨some 56, (some (54, true)), .ld1 (.tmp 55)⟩,
 ⟨some 57, (some (54, true)), .bin .add (.tmp 56) (.const (.int .i64 1))⟩,
 ⟨some 58, (some (54, true)), .mov (.tmp 0)⟩,
 ⟨some 59, (some (54, true)), .nilck (.tmp 58)⟩,
 ⟨some 60, (some (54, true)), .fad (.tmp 59) 0⟩,
 ⟨some 61, (some (54, true)), .ld1 (.tmp 60)⟩,
 ⟨some 62, (some (54, true)), .fad (.tmp 4) 0⟩,
 ⟨some 63, (some (54, true)), .ld1 (.tmp 62)⟩,
 ⟨some 64, (some (54, true)), .iad 7 (.tmp 61) (.tmp 63)⟩,
 ⟨some 65, (some (54, true)), .fad (.tmp 64) 1⟩,
 ⟨some 66, (some (54, true)), .ld1 (.tmp 65)⟩,
 ⟨some 67, (some (54, true)), .bin .lss (.tmp 57) (.tmp 66)⟩,
 ⟨some 68, none, .pick (.tmp 54) (.tmp 67) (.const (.bool false))⟩] [(4, 7), (5, 7), (6, 7), (4, 8), (5, 8), (6, 8), (4, 9), (5, 9), (6, 9), (4, 10), (5, 10), (6, 10), (4, 11), (5, 11), (6, 11), (7, 11), (8, 11), (9, 11), (10, 11), (4, 12), (5, 12), (6, 12), (7, 12), (8, 12), (9, 12), (10, 12), (4, 13), (5, 13), (6, 13), (4, 14), (5, 14), (6, 14), (4, 15), (5, 15), (6, 15)])
 (.cond (.tmp 68)
 (.seq (.ops [⟨some 69, none, .fad (.tmp 4) 0⟩,
 ⟨some 70, none, .ld1 (.tmp 69)⟩,
 ⟨some 71, none, .fad (.tmp 4) 1⟩,
 ⟨some 72, none, .ld1 (.tmp 71)⟩,
 ⟨some 73, none, .bin .add (.tmp 72) (.const (.int .i64 1))⟩,
 ⟨some 74, none, .fad (.tmp 4) 2⟩,
 ⟨some 75, none, .ld1 (.tmp 74)⟩,
 ⟨some 76, none, .agg [(.int .i64 0), (.int .i64 0), (.int .i64 0)] [(0, 1, (.tmp 70)), (1, 1, (.tmp 73)), (2, 1, (.tmp 75))]⟩,
 ⟨none, none, .st 3 (.tmp 2) (.tmp 76)⟩])
 .ret)
 .skip))))
 (.ops [⟨some 36, none, .mov (.tmp 0)⟩,
 ⟨some 37, none, .nilck (.tmp 36)⟩,
 ⟨some 38, none, .fad (.tmp 37) 1⟩,
 ⟨some 39, none, .ld1 (.tmp 38)⟩,
 ⟨some 40, none, .mov (.tmp 3)⟩,
 ⟨some 41, none, .iad 3 (.tmp 39) (.tmp 40)⟩,
 ⟨some 42, none, .fad (.tmp 41) 0⟩,
 ⟨some 43, none, .ld1 (.tmp 42)⟩,
 ⟨some 3, none, .mov (.tmp 43)⟩])))))
 (.seq (.ops [⟨some 77, none, .agg [(.int .i64 0), (.int .i64 0), (.int .i64 0)] [(0, 1, (.const (.int .i64 (-1)))), (1, 1, (.const (.int .i64 0))), (2, 1, (.const (.int .i64 (-1))))]⟩,
 ⟨none, none, .st 3 (.tmp 2) (.tmp 77)⟩])
 .ret))))))⟩
theorem ok72 : compF Tryz.prog Tryz.f72 = some c72 := by kernel_rfl
def c73 : CF := ⟨109, [.tmp 4],
 (.seq (.ops [⟨some 2, none, .box (.tmp 0)⟩,
 ⟨some 4, none, .mov (.const (.int .i64 0))⟩])
 (.seq (.ops [⟨some 6, none, .fad (.tmp 2) 0⟩,
 ⟨some 7, none, .ld1 (.tmp 6)⟩,
 ⟨some 8, none, .bin .eql (.tmp 7) (.const (.int .i64 1))⟩,
 ⟨some 9, none, .mov (.tmp 8)⟩,
 ⟨some 10, (some (9, false)), .fad (.tmp 2) 0⟩,
 ⟨some 11, (some (9, false)), .ld1 (.tmp 10)⟩,
 ⟨some 12, (some (9, false)), .bin .eql (.tmp 11) (.const (.int .i64 2))⟩,
 ⟨some 13, none, .pick (.tmp 9) (.const (.bool true)) (.tmp 12)⟩,
 ⟨some 14, none, .mov (.tmp 13)⟩,
 ⟨some 15, (some (14, false)), .fad (.tmp 2) 0⟩,
 ⟨some 16, (some (14, false)), .ld1 (.tmp 15)⟩,
 ⟨some 17, (some (14, false)), .bin .eql (.tmp 16) (.const (.int .i64 6))⟩,
 ⟨some 18, none, .pick (.tmp 14) (.const (.bool true)) (.tmp 17)⟩,
 ⟨some 19, none, .mov (.tmp 18)⟩,
 ⟨some 20, (some (19, false)), .fad (.tmp 2) 0⟩,
 ⟨some 21, (some (19, false)), .ld1 (.tmp 20)⟩,
 ⟨some 22, (some (19, false)), .bin .eql (.tmp 21) (.const (.int .i64 9))⟩,
 ⟨some 23, none, .pick (.tmp 19) (.const (.bool true)) (.tmp 22)⟩,
 ⟨some 5, none, .mov (.tmp 23)⟩])
 (.seq (.block 0 (.seq (.ops [⟨some 25, none, .fad (.tmp 2) 0⟩,
 ⟨some 26, none, .ld1 (.tmp 25)⟩,
 ⟨some 27, none, .bin .lss (.tmp 26) (.const (.int .i64 1))⟩,
 ⟨some 28, none, .mov (.tmp 27)⟩,
 ⟨some 29, (some (28, false)), .fad (.tmp 2) 0⟩,
 ⟨some 30, (some (28, false)), .ld1 (.tmp 29)⟩,
 ⟨some 31, (some (28, false)), .bin .gtr (.tmp 30) (.const (.int .i64 24))⟩,
 ⟨some 32, none, .pick (.tmp 28) (.const (.bool true)) (.tmp 31)⟩,
 ⟨some 33, none, .mov (.tmp 32)⟩,
 ⟨some 34, (some (33, false)), .fad (.tmp 2) 1⟩,
 ⟨some 35, (some (33, false)), .ld1 (.tmp 34)⟩,
 ⟨some 36, (some (33, false)), .bin .lss (.tmp 35) (.const (.int .i64 0))⟩,
 ⟨some 37, none, .pick (.tmp 33) (.const (.bool true)) (.tmp 36)⟩,
 ⟨some 38, none, .mov (.tmp 37)⟩,
 ⟨some 39, (some (38, false)), .mov (.tmp 5)⟩,
 ⟨some 40, (some (38, false)), .un .not (.tmp 39)⟩,
 ⟨some 41, (some (38, false)), .mov (.tmp 40)⟩,
 ⟨some 42, (some (41, true)), .fad (.tmp 2) 2⟩,
 ⟨some 43, (some (41, true)), .ld1 (.tmp 42)⟩,
 ⟨some 44, (some (41, true)), .bin .neq (.tmp 43) (.const (.int .i64 0))⟩,
 ⟨some 45, (some (38, false)), .pick (.tmp 41) (.tmp 44) (.const (.bool false))⟩,
 ⟨some 46, none, .pick (.tmp 38) (.const (.bool true)) (.tmp 45)⟩,
 ⟨some 47, none, .mov (.tmp 46)⟩,
 ⟨some 48, (some (47, false)), .fad (.tmp 2) 0⟩,
 ⟨some 49, (some (47, false)), .ld1 (.tmp 48)⟩,
 ⟨some 50, (some (47, false)), .call (.func 82) [(.tmp 49)]⟩,
 ⟨some 51, (some (47, false)), .un .not (.tmp 50)⟩,
 ⟨some 52, (some (47, false)), .mov (.tmp 51)⟩,
 ⟨some 53, (some (52, true)), .fad (.tmp 2) 3⟩,
 ⟨some 54, (some (52, true)), .ld1 (.tmp 53)⟩,
 ⟨some 55, (some (52, true)), .bin .neq (.tmp 54) (.const (.string ⟨#[]⟩))⟩,
 ⟨some 56, (some (47, false)), .pick (.tmp 52) (.tmp 55) (.const (.bool false))⟩,
 ⟨some 57, none, .pick (.tmp 47) (.const (.bool true)) (.tmp 56)⟩,
 ⟨some 24, none, .mov (.tmp 57)⟩])
 (.cond (.tmp 24)
 (.seq (.ops [⟨some 4, none, .mov (.const (.int .i64 6))⟩])
 .ret)
 (.seq (.ops [⟨some 59, none, .mov (.tmp 1)⟩,
 ⟨some 60, none, .bin .gtr (.tmp 59) (.const (.int .i64 200))⟩,
 ⟨some 58, none, .mov (.tmp 60)⟩])
 (.cond (.tmp 58)
 (.seq (.ops [⟨some 4, none, .mov (.const (.int .i64 3))⟩])
 .ret)
 (.seq (.ops [⟨some 62, none, .fad (.tmp 2) 0⟩,
 ⟨some 63, none, .ld1 (.tmp 62)⟩,
 ⟨some 64, none, .bin .neq (.tmp 63) (.const (.int .i64 1))⟩,
 ⟨some 65, none, .mov (.tmp 64)⟩,
 ⟨some 66, (some (65, true)), .fad (.tmp 2) 2⟩,
 ⟨some 67, (some (65, true)), .ld1 (.tmp 66)⟩,
 ⟨some 68, (some (65, true)), .bin .lss (.tmp 67) (.const (.int .i64 0))⟩,
 ⟨some 69, none, .pick (.tmp 65) (.tmp 68) (.const (.bool false))⟩,
 ⟨some 70, none, .mov (.tmp 69)⟩,
 ⟨some 71, (some (70, false)), .fad (.tmp 2) 0⟩,
 ⟨some 72, (some (70, false)), .ld1 (.tmp 71)⟩,
 ⟨some 73, (some (70, false)), .bin .eql (.tmp 72) (.const (.int .i64 2))⟩,
 ⟨some 74, (some (70, false)), .mov (.tmp 73)⟩,
 ⟨some 75, (some (74, true)), .fad (.tmp 2) 2⟩,
 ⟨some 76, (some (74, true)), .ld1 (.tmp 75)⟩,
 ⟨some 77, (some (74, true)), .bin .gtr (.tmp 76) (.const (.int .i64 1))⟩,
 ⟨some 78, (some (70, false)), .pick (.tmp 74) (.tmp 77) (.const (.bool false))⟩,
 ⟨some 79, none, .pick (.tmp 70) (.const (.bool true)) (.tmp 78)⟩,
 ⟨some 61, none, .mov (.tmp 79)⟩])
 (.cond (.tmp 61)
 (.seq (.ops [⟨some 4, none, .mov (.const (.int .i64 7))⟩])
 .ret)
 (.seq (.ops [⟨some 81, none, .fad (.tmp 2) 0⟩,
 ⟨some 82, none, .ld1 (.tmp 81)⟩,
 ⟨some 83, none, .call (.func 82) [(.tmp 82)]⟩,
 ⟨some 84, none, .mov (.tmp 83)⟩,
 ⟨some 85, (some (84, true)), .fad (.tmp 2) 3⟩,
 ⟨some 86, (some (84, true)), .ld1 (.tmp 85)⟩,
 ⟨some 87, (some (84, true)), .call (.func 67) [(.tmp 86)]⟩,
 ⟨some 88, (some (84, true)), .un .not (.tmp 87)⟩,
 ⟨some 89, none, .pick (.tmp 84) (.tmp 88) (.const (.bool false))⟩,
 ⟨some 90, none, .mov (.tmp 89)⟩,
 ⟨some 91, (some (90, false)), .fad (.tmp 2) 4⟩,
 ⟨some 92, (some (90, false)), .fad (.tmp 91) 0⟩,
 ⟨some 93, (some (90, false)), .ld1 (.tmp 92)⟩,
 ⟨some 94, (some (90, false)), .bin .lss (.tmp 93) (.const (.int .i64 0))⟩,
 ⟨some 95, none, .pick (.tmp 90) (.const (.bool true)) (.tmp 94)⟩,
 ⟨some 96, none, .mov (.tmp 95)⟩,
 ⟨some 97, (some (96, false)), .fad (.tmp 2) 4⟩,
 ⟨some 98, (some (96, false)), .fad (.tmp 97) 0⟩,
 ⟨some 99, (some (96, false)), .ld1 (.tmp 98)⟩,
 ⟨some 100, (some (96, false)), .fad (.tmp 2) 4⟩,
 ⟨some 101, (some (96, false)), .fad (.tmp 100) 1⟩,
 ⟨some 102, (some (96, false)), .ld1 (.tmp 101)⟩,
 ⟨some 103, (some (96, false)), .bin .gtr (.tmp 99) (.tmp 102)⟩,
 ⟨some 104, none, .pick (.tmp 96) (.const (.bool true)) (.tmp 103)⟩,
 ⟨some 80, none, .mov (.tmp 104)⟩])
 (.cond (.tmp 80)
 (.seq (.ops [⟨some 4, none, .mov (.const (.int .i64 6))⟩])
 .ret)
 (.seq (.ops [⟨some 106, none, .fad (.tmp 2) 6⟩,
 ⟨some 107, none, .ld1 (.tmp 106)⟩,
 ⟨some 108, none, .bin .lss (.tmp 107) (.const (.int .i64 0))⟩,
 ⟨some 105, none, .mov (.tmp 108)⟩])
 (.cond (.tmp 105)
 (.seq (.ops [⟨some 4, none, .mov (.const (.int .i64 7))⟩])
 .ret)
 .skip)))))))))))
 (.seq (.ops [⟨some 4, none, .mov (.const (.int .i64 0))⟩])
 .ret))))⟩
theorem ok73 : compF Tryz.prog Tryz.f73 = some c73 := by kernel_rfl
def c74 : CF := ⟨77, [.tmp 6],
 (.seq (.ops [⟨some 4, none, .box (.tmp 1)⟩,
 ⟨some 5, none, .box (.tmp 2)⟩,
 ⟨some 6, none, .mov (.const (.int .i64 0))⟩])
 (.seq (.draw [⟨some 10, none, .mov (.tmp 0)⟩,
 ⟨some 11, none, .fad (.tmp 4) 0⟩,
 ⟨some 12, none, .ld1 (.tmp 11)⟩,
 ⟨some 13, none, .nilck (.tmp 10)⟩,
 ⟨some 14, none, .fad (.tmp 13) 2⟩,
 ⟨some 15, none, .iaa 25 5 (.tmp 14) (.tmp 12)⟩,
 ⟨some 16, none, .ld 5 (.tmp 15)⟩,
 ⟨some 17, none, .mov (.tmp 0)⟩,
 ⟨some 18, none, .ld 3 (.tmp 5)⟩,
 ⟨some 19, none, .call (.func 83) [(.tmp 17), (.tmp 18)]⟩,
 ⟨some 7, none, .newz [(.int .i64 0), (.int .i64 0), (.int .i64 0), (.int .i64 0), (.slice none 0 0)]⟩,
 ⟨none, none, .st 5 (.tmp 7) (.tmp 16)⟩,
 ⟨some 8, none, .mov (.tmp 19)⟩] [(0, 1), (0, 2), (1, 3), (2, 3), (1, 4), (2, 4), (0, 7), (1, 7), (2, 7), (3, 7), (4, 7), (5, 7), (6, 7), (0, 8), (1, 8), (2, 8), (3, 8), (4, 8), (5, 8), (6, 8), (7, 8), (0, 9), (1, 9), (2, 9), (3, 9), (4, 9), (5, 9), (6, 9), (0, 10), (1, 10), (2, 10), (3, 10), (4, 10), (5, 10), (6, 10), (7, 10), (8, 10), (9, 10)])
 (.seq (.seq (.ops [⟨some 20, none, .fad (.tmp 4) 1⟩,
 ⟨some 21, none, .ld1 (.tmp 20)⟩,
 ⟨some 22, none, .fad (.tmp 7) 0⟩,
 ⟨some 23, none, .ld1 (.tmp 22)⟩,
 ⟨some 24, none, .bin .lss (.tmp 21) (.tmp 23)⟩,
 ⟨some 25, none, .mov (.tmp 24)⟩,
 ⟨some 26, (some (25, false)), .fad (.tmp 7) 1⟩,
 ⟨some 27, (some (25, false)), .ld1 (.tmp 26)⟩,
 ⟨some 28, (some (25, false)), .bin .geq (.tmp 27) (.const (.int .i64 0))⟩,
 ⟨some 29, (some (25, false)), .mov (.tmp 28)⟩,
 ⟨some 30, (some (29, true)), .fad (.tmp 4) 1⟩,
 ⟨some 31, (some (29, true)), .ld1 (.tmp 30)⟩,
 ⟨some 32, (some (29, true)), .fad (.tmp 7) 1⟩,
 ⟨some 33, (some (29, true)), .ld1 (.tmp 32)⟩,
 ⟨some 34, (some (29, true)), .bin .gtr (.tmp 31) (.tmp 33)⟩,
 ⟨some 35, (some (25, false)), .pick (.tmp 29) (.tmp 34) (.const (.bool false))⟩,
 ⟨some 36, none, .pick (.tmp 25) (.const (.bool true)) (.tmp 35)⟩,
 ⟨some 37, none, .mov (.tmp 36)⟩,
 ⟨some 38, (some (37, false)), .fad (.tmp 4) 0⟩,
 ⟨some 39, (some (37, false)), .ld1 (.tmp 38)⟩,
 ⟨some 40, (some (37, false)), .call (.func 84) [(.tmp 39)]⟩,
 ⟨some 41, (some (37, false)), .mov (.tmp 40)⟩,
 ⟨some 42, (some (41, true)), .fad (.tmp 4) 1⟩,
 ⟨some 43, (some (41, true)), .ld1 (.tmp 42)⟩,
 ⟨some 44, (some (41, true)), .bin .rem (.tmp 43) (.const (.int .i64 2))⟩,
 ⟨some 45, (some (41, true)), .bin .eql (.tmp 44) (.const (.int .i64 0))⟩,
 ⟨some 46, (some (37, false)), .pick (.tmp 41) (.tmp 45) (.const (.bool false))⟩,
 ⟨some 47, none, .pick (.tmp 37) (.const (.bool true)) (.tmp 46)⟩,
 ⟨some 48, none, .mov (.tmp 47)⟩,
 ⟨some 49, (some (48, false)), .fad (.tmp 7) 4⟩,
 ⟨some 50, (some (48, false)), .ld1 (.tmp 49)⟩,
 ⟨some 51, (some (48, false)), .mov (.tmp 8)⟩,
 ⟨some 52, (some (48, false)), .call (.func 85) [(.tmp 50), (.tmp 51)]⟩,
 ⟨some 53, (some (48, false)), .un .not (.tmp 52)⟩,
 ⟨some 54, none, .pick (.tmp 48) (.const (.bool true)) (.tmp 53)⟩])
 (.cond (.tmp 54)
 (.seq (.ops [⟨some 6, none, .mov (.const (.int .i64 6))⟩])
 .ret)
 .skip))
 (.seq (.ops [⟨some 9, none, .mov (.const (.int .i64 0))⟩])
 (.seq (.seq (.ops [⟨some 55, none, .fad (.tmp 4) 0⟩,
 ⟨some 56, none, .ld1 (.tmp 55)⟩])
 (.block 0 (.seq (.ops [⟨some 58, none, .bin .eql (.tmp 56) (.const (.int .i64 8))⟩,
 ⟨some 57, none, .mov (.tmp 58)⟩])
 (.cond (.tmp 57)
 (.ops [⟨some 59, none, .fad (.tmp 4) 1⟩,
 ⟨some 60, none, .ld1 (.tmp 59)⟩,
 ⟨some 61, none, .bin .sub (.tmp 60) (.const (.int .i64 1))⟩,
 ⟨some 9, none, .mov (.tmp 61)⟩])
 (.seq (.seq (.ops [⟨some 63, none, .bin .eql (.tmp 56) (.const (.int .i64 12))⟩,
 ⟨some 62, none, .mov (.tmp 63)⟩])
 (.cond (.tmp 62)
 .skip
 (.ops [⟨some 64, none, .bin .eql (.tmp 56) (.const (.int .i64 14))⟩,
 ⟨some 62, none, .mov (.tmp 64)⟩])))
 (.cond (.tmp 62)
 (.ops [⟨some 65, none, .fad (.tmp 4) 1⟩,
 ⟨some 66, none, .ld1 (.tmp 65)⟩,
 ⟨some 67, none, .bin .quo (.tmp 66) (.const (.int .i64 2))⟩,
 ⟨some 9, none, .mov (.tmp 67)⟩])
 .skip))))))
 (.seq (.seq (.ops [⟨some 68, none, .mov (.tmp 9)⟩,
 ⟨some 69, none, .bin .gtr (.tmp 68) (.const (.int .i64 8))⟩])
 (.cond (.tmp 69)
 (.seq (.ops [⟨some 6, none, .mov (.const (.int .i64 3))⟩])
 .ret)
 .skip))
 (.seq (.seq (.ops [⟨some 70, none, .mov (.tmp 8)⟩,
 ⟨some 71, none, .bin .eql (.tmp 70) (.const (.int .i64 6))⟩,
 ⟨some 72, none, .mov (.tmp 71)⟩,
 ⟨some 73, (some (72, true)), .fad (.tmp 4) 0⟩,
 ⟨some 74, (some (72, true)), .ld1 (.tmp 73)⟩,
 ⟨some 75, (some (72, true)), .bin .neq (.tmp 74) (.const (.int .i64 8))⟩,
 ⟨some 76, none, .pick (.tmp 72) (.tmp 75) (.const (.bool false))⟩])
 (.cond (.tmp 76)
 (.seq (.ops [⟨some 6, none, .mov (.const (.int .i64 16))⟩])
 .ret)
 .skip))
 (.seq (.ops [⟨some 6, none, .mov (.const (.int .i64 0))⟩])
 .ret))))))))⟩
theorem ok74 : compF Tryz.prog Tryz.f74 = some c74 := by kernel_rfl
def c75 : CF := ⟨99, [.tmp 2, .tmp 3, .tmp 4],
 (.seq (.ops [⟨some 2, none, .mov (.const (.pointer none))⟩,
 ⟨some 3, none, .mov (.const (.int .i64 0))⟩,
 ⟨some 4, none, .mov (.const (.int .i64 0))⟩])
 (.seq (.ops [⟨some 14, none, .mov (.tmp 0)⟩,
 ⟨some 15, none, .nilck (.tmp 14)⟩,
 ⟨some 16, none, .fad (.tmp 15) 0⟩,
 ⟨some 17, none, .ld1 (.tmp 16)⟩,
 ⟨some 18, none, .lnl (.tmp 17)⟩,
 ⟨some 5, none, .mov (.tmp 18)⟩])
 (.seq (.seq (.ops [⟨some 19, none, .mov (.tmp 0)⟩,
 ⟨some 20, none, .nilck (.tmp 19)⟩,
 ⟨some 21, none, .fad (.tmp 20) 0⟩,
 ⟨some 22, none, .ld1 (.tmp 21)⟩,
 ⟨some 23, none, .lnl (.tmp 22)⟩,
 ⟨some 24, none, .mov (.const (.int .i64 0))⟩])
 (.block 0 (.loop (.seq (.ops [⟨some 25, none, .bin .lss (.tmp 24) (.tmp 23)⟩])
 (.seq (.cond (.tmp 25)
 .skip
 (.exit 0))
 (.seq (.block 1 (.seq (.ops [⟨some 26, none, .mov (.tmp 24)⟩,
 ⟨some 27, none, .iad 7 (.tmp 22) (.tmp 24)⟩,
 ⟨some 28, none, .ld 7 (.tmp 27)⟩,
 ⟨some 7, none, .newz [(.int .i64 0), (.int .i64 0), (.int .i64 0), (.string ⟨#[]⟩), (.int .i64 0), (.int .i64 0), (.int .i64 0)]⟩,
 ⟨some 6, none, .mov (.tmp 26)⟩,
 ⟨none, none, .st 7 (.tmp 7) (.tmp 28)⟩])
 (.seq (.seq (.ops [⟨some 29, none, .fad (.tmp 7) 0⟩,
 ⟨some 30, none, .ld1 (.tmp 29)⟩,
 ⟨some 31, none, .bin .neq (.tmp 30) (.const (.int .i64 9))⟩])
 (.cond (.tmp 31)
 (.exit 1)
 .skip))
 (.seq (.seq (.draw [⟨some 33, none, .mov (.tmp 0)⟩,
 ⟨some 34, none, .nilck (.tmp 33)⟩,
 ⟨some 35, none, .fad (.tmp 34) 127⟩,
 ⟨some 36, none, .ld1 (.tmp 35)⟩,
 ⟨some 37, none, .fad (.tmp 7) 2⟩,
 ⟨some 38, none, .ld1 (.tmp 37)⟩,
 ⟨some 39, none, .lkp (.int .i64) (.int .i64 0) (.tmp 36) (.tmp 38) true⟩,
 ⟨some 32, none, .mov (.tmp 39)⟩,
 ⟨some 40, none, .ext (.tmp 32) 0⟩,
 ⟨some 41, none, .ext (.tmp 32) 1⟩,
 ⟨some 8, none, .mov (.tmp 40)⟩,
 ⟨some 9, none, .mov (.tmp 41)⟩] [(0, 4), (1, 4), (2, 4), (3, 4), (0, 5), (1, 5), (2, 5), (3, 5), (8, 9), (9, 10)])
 (.seq (.ops [⟨some 42, none, .mov (.tmp 9)⟩])
 (.cond (.tmp 42)
 (.seq (.ops [⟨some 43, none, .mov (.tmp 5)⟩,
 ⟨some 44, none, .mov (.tmp 6)⟩,
 ⟨some 45, none, .mnx false [(.tmp 43), (.tmp 44)]⟩,
 ⟨some 5, none, .mov (.tmp 45)⟩])
 (.exit 1))
 .skip)))
 (.draw [⟨some 46, none, .mov (.tmp 0)⟩,
 ⟨some 47, none, .nilck (.tmp 46)⟩,
 ⟨some 48, none, .fad (.tmp 47) 127⟩,
 ⟨some 49, none, .ld1 (.tmp 48)⟩,
 ⟨some 50, none, .fad (.tmp 7) 2⟩,
 ⟨some 51, none, .ld1 (.tmp 50)⟩,
 ⟨some 52, none, .mov (.tmp 6)⟩,
 ⟨none, none, .mup (.int .i64) (.tmp 49) (.tmp 51) (.tmp 52)⟩] [(0, 4), (1, 4), (2, 4), (3, 4), (0, 5), (1, 5), (2, 5), (3, 5), (0, 6), (1, 6), (2, 6), (3, 6), (4, 6), (5, 6)])))))
 (.ops [⟨some 53, none, .bin .add (.tmp 24) (.const (.int .i64 1))⟩,
 ⟨some 24, none, .mov (.tmp 53)⟩])))))))
 (.seq (.seq (.ops [⟨some 54, none, .mov (.tmp 0)⟩,
 ⟨some 55, none, .nilck (.tmp 54)⟩,
 ⟨some 56, none, .fad (.tmp 55) 0⟩,
 ⟨some 57, none, .ld1 (.tmp 56)⟩,
 ⟨some 58, none, .lnl (.tmp 57)⟩,
 ⟨some 59, none, .mov (.const (.int .i64 0))⟩])
 (.block 2 (.loop (.seq (.ops [⟨some 60, none, .bin .lss (.tmp 59) (.tmp 58)⟩])
 (.seq (.cond (.tmp 60)
 .skip
 (.exit 2))
 (.seq (.block 3 (.seq (.ops [⟨some 61, none, .mov (.tmp 59)⟩,
 ⟨some 62, none, .iad 7 (.tmp 57) (.tmp 59)⟩,
 ⟨some 63, none, .ld 7 (.tmp 62)⟩,
 ⟨some 11, none, .newz [(.int .i64 0), (.int .i64 0), (.int .i64 0), (.string ⟨#[]⟩), (.int .i64 0), (.int .i64 0), (.int .i64 0)]⟩,
 ⟨some 10, none, .mov (.tmp 61)⟩,
 ⟨none, none, .st 7 (.tmp 11) (.tmp 63)⟩])
 (.seq (.seq (.ops [⟨some 64, none, .mov (.tmp 10)⟩,
 ⟨some 65, none, .mov (.tmp 5)⟩,
 ⟨some 66, none, .bin .eql (.tmp 64) (.tmp 65)⟩])
 (.cond (.tmp 66)
 (.seq (.ops [⟨some 67, none, .mov (.tmp 10)⟩,
 ⟨some 2, none, .mov (.const (.pointer none))⟩,
 ⟨some 3, none, .mov (.tmp 67)⟩,
 ⟨some 4, none, .mov (.const (.int .i64 8))⟩])
 .ret)
 .skip))
 (.seq (.seq (.ops [⟨some 68, none, .fad (.tmp 11) 0⟩,
 ⟨some 69, none, .ld1 (.tmp 68)⟩,
 ⟨some 70, none, .bin .neq (.tmp 69) (.const (.int .i64 6))⟩])
 (.cond (.tmp 70)
 (.exit 3)
 .skip))
 (.seq (.draw [⟨some 72, none, .mov (.tmp 0)⟩,
 ⟨some 73, none, .nilck (.tmp 72)⟩,
 ⟨some 74, none, .fad (.tmp 73) 127⟩,
 ⟨some 75, none, .ld1 (.tmp 74)⟩,
 ⟨some 76, none, .fad (.tmp 11) 2⟩,
 ⟨some 77, none, .ld1 (.tmp 76)⟩,
 ⟨some 78, none, .lkp (.int .i64) (.int .i64 0) (.tmp 75) (.tmp 77) true⟩,
 ⟨some 71, none, .mov (.tmp 78)⟩,
 ⟨some 79, none, .ext (.tmp 71) 0⟩,
 ⟨some 80, none, .ext (.tmp 71) 1⟩,
 ⟨some 12, none, .mov (.tmp 79)⟩,
 ⟨some 13, none, .mov (.tmp 80)⟩] [(0, 4), (1, 4), (2, 4), (3, 4), (0, 5), (1, 5), (2, 5), (3, 5), (8, 9), (9, 10)])
 (.seq (.seq (.ops [⟨some 81, none, .mov (.tmp 13)⟩,
 ⟨some 82, none, .un .not (.tmp 81)⟩])
 (.cond (.tmp 82)
 (.seq (.ops [⟨some 83, none, .mov (.tmp 10)⟩,
 ⟨some 2, none, .mov (.const (.pointer none))⟩,
 ⟨some 3, none, .mov (.tmp 83)⟩,
 ⟨some 4, none, .mov (.const (.int .i64 10))⟩])
 .ret)
 .skip))
 (.seq (.ops [⟨some 84, none, .mov (.tmp 0)⟩,
 ⟨some 85, none, .mov (.tmp 12)⟩,
 ⟨some 86, none, .mov (.tmp 10)⟩,
 ⟨some 87, none, .call (.func 86) [(.tmp 84), (.tmp 85), (.tmp 86)]⟩,
 ⟨some 88, none, .un .not (.tmp 87)⟩,
 ⟨some 89, none, .mov (.tmp 88)⟩,
 ⟨some 90, (some (89, true)), .mov (.tmp 0)⟩,
 ⟨some 91, (some (89, true)), .mov (.tmp 12)⟩,
 ⟨some 92, (some (89, true)), .mov (.tmp 10)⟩,
 ⟨some 93, (some (89, true)), .call (.func 87) [(.tmp 90), (.tmp 91), (.tmp 92)]⟩,
 ⟨some 94, (some (89, true)), .un .not (.tmp 93)⟩,
 ⟨some 95, none, .pick (.tmp 89) (.tmp 94) (.const (.bool false))⟩])
 (.cond (.tmp 95)
 (.seq (.ops [⟨some 96, none, .mov (.tmp 10)⟩,
 ⟨some 2, none, .mov (.const (.pointer none))⟩,
 ⟨some 3, none, .mov (.tmp 96)⟩,
 ⟨some 4, none, .mov (.const (.int .i64 15))⟩])
 .ret)
 .skip))))))))
 (.ops [⟨some 97, none, .bin .add (.tmp 59) (.const (.int .i64 1))⟩,
 ⟨some 59, none, .mov (.tmp 97)⟩])))))))
 (.seq (.ops [⟨some 98, none, .mov (.tmp 0)⟩,
 ⟨some 2, none, .mov (.tmp 98)⟩,
 ⟨some 3, none, .mov (.const (.int .i64 0))⟩,
 ⟨some 4, none, .mov (.const (.int .i64 0))⟩])
 .ret)))))⟩
theorem ok75 : compF Tryz.prog Tryz.f75 = some c75 := by kernel_rfl
def c76 : CF := ⟨37, [.tmp 4],
 (.seq (.ops [⟨some 4, none, .mov (.const (.string ⟨#[]⟩))⟩])
 (.seq (.seq (.ops [⟨some 7, none, .mov (.tmp 0)⟩,
 ⟨some 8, none, .bin .eql (.tmp 7) (.const (.string ⟨#[]⟩))⟩,
 ⟨some 9, none, .mov (.tmp 8)⟩,
 ⟨some 10, (some (9, false)), .mov (.tmp 1)⟩,
 ⟨some 11, (some (9, false)), .bin .eql (.tmp 10) (.const (.string ⟨#[]⟩))⟩,
 ⟨some 12, none, .pick (.tmp 9) (.const (.bool true)) (.tmp 11)⟩])
 (.cond (.tmp 12)
 (.seq (.ops [⟨some 13, none, .mov (.tmp 0)⟩,
 ⟨some 4, none, .mov (.tmp 13)⟩])
 .ret)
 .skip))
 (.seq (.seq (.ops [⟨some 14, none, .mov (.tmp 1)⟩,
 ⟨some 15, none, .lns (.tmp 14)⟩,
 ⟨some 16, none, .bin .eql (.tmp 15) (.const (.int .i64 1))⟩,
 ⟨some 17, none, .mov (.tmp 16)⟩,
 ⟨some 18, (some (17, true)), .mov (.tmp 1)⟩,
 ⟨some 19, (some (17, true)), .ids (.tmp 18) (.const (.int .i64 0))⟩,
 ⟨some 20, (some (17, true)), .bin .lss (.tmp 19) (.const (.int .u8 128))⟩,
 ⟨some 21, none, .pick (.tmp 17) (.tmp 20) (.const (.bool false))⟩])
 (.cond (.tmp 21)
 (.seq (.ops [⟨some 22, none, .mov (.tmp 0)⟩,
 ⟨some 23, none, .mov (.tmp 1)⟩,
 ⟨some 24, none, .ids (.tmp 23) (.const (.int .i64 0))⟩,
 ⟨some 25, none, .call (.func 88) [(.tmp 22), (.tmp 24)]⟩,
 ⟨some 4, none, .mov (.tmp 25)⟩])
 .ret)
 .skip))
 (.seq (.seq (.ops [⟨some 27, none, .mov (.tmp 1)⟩,
 ⟨some 28, none, .call (.func 89) [(.tmp 27)]⟩,
 ⟨some 26, none, .mov (.tmp 28)⟩,
 ⟨some 29, none, .ext (.tmp 26) 0⟩,
 ⟨some 30, none, .ext (.tmp 26) 1⟩,
 ⟨some 5, none, .newz [(.bool false), (.bool false), (.bool false), (.bool false), (.bool false), (.bool false), (.bool false), (.bool false), (.bool false), (.bool false), (.bool false), (.bool false), (.bool false), (.bool false), (.bool false), (.bool false), (.bool false), (.bool false), (.bool false), (.bool false), (.bool false), (.bool false), (.bool false), (.bool false), (.bool false), (.bool false), (.bool false), (.bool false), (.bool false), (.bool false), (.bool false), (.bool false), (.bool false), (.bool false), (.bool false), (.bool false), (.bool false), (.bool false), (.bool false), (.bool false), (.bool false), (.bool false), (.bool false), (.bool false), (.bool false), (.bool false), (.bool false), (.bool false), (.bool false), (.bool false), (.bool false), (.bool false), (.bool false), (.bool false), (.bool false), (.bool false), (.bool false), (.bool false), (.bool false), (.bool false), (.bool false), (.bool false), (.bool false), (.bool false), (.bool false), (.bool false), (.bool false), (.bool false), (.bool false), (.bool false), (.bool false), (.bool false), (.bool false), (.bool false), (.bool false), (.bool false), (.bool false), (.bool false), (.bool false), (.bool false), (.bool false), (.bool false), (.bool false), (.bool false), (.bool false), (.bool false), (.bool false), (.bool false), (.bool false), (.bool false), (.bool false), (.bool false), (.bool false), (.bool false), (.bool false), (.bool false), (.bool false), (.bool false), (.bool false), (.bool false), (.bool false), (.bool false), (.bool false), (.bool false), (.bool false), (.bool false), (.bool false), (.bool false), (.bool false), (.bool false), (.bool false), (.bool false), (.bool false), (.bool false), (.bool false), (.bool false), (.bool false), (.bool false), (.bool false), (.bool false), (.bool false), (.bool false), (.bool false), (.bool false), (.bool false), (.bool false), (.bool false), (.bool false), (.bool false), (.bool false), (.bool false), (.bool false), (.bool false), (.bool false), (.bool false), (.bool false), (.bool false), (.bool false), (.bool false), (.bool false), (.bool false), (.bool false), (.bool false), (.bool false), (.bool false), (.bool false), (.bool false), (.bool false), (.bool false), (.bool false), (.bool false), (.bool false), (.bool false), (.bool false), (.bool false), (.bool false), (.bool false), (.bool false), (.bool false), (.bool false), (.bool false), (.bool false), (.bool false), (.bool false), (.bool false), (.bool false), (.bool false), (.bool false), (.bool false), (.bool false), (.bool false), (.bool false), (.bool false), (.bool false), (.bool false), (.bool false), (.bool false), (.bool false), (.bool false), (.bool false), (.bool false), (.bool false), (.bool false), (.bool false), (.bool false), (.bool false), (.bool false), (.bool false), (.bool false), (.bool false), (.bool false), (.bool false), (.bool false), (.bool false), (.bool false), (.bool false), (.bool false), (.bool false), (.bool false), (.bool false), (.bool false), (.bool false), (.bool false), (.bool false), (.bool false), (.bool false), (.bool false), (.bool false), (.bool false), (.bool false), (.bool false), (.bool false), (.bool false), (.bool false), (.bool false), (.bool false), (.bool false), (.bool false), (.bool false), (.bool false), (.bool false), (.bool false), (.bool false), (.bool false), (.bool false), (.bool false), (.bool false), (.bool false), (.bool false), (.bool false), (.bool false), (.bool false), (.bool false), (.bool false), (.bool false), (.bool false), (.bool false), (.bool false), (.bool false), (.bool false), (.bool false), (.bool false), (.bool false), (.bool false), (.bool false), (.bool false), (.bool false), (.bool false), (.bool false), (.bool false), (.bool false), (.bool false), (.bool false), (.bool false), (.bool false), (.bool false)]⟩,
 ⟨none, none, .st 256 (.tmp 5) (.tmp 29)⟩,
 ⟨some 6, none, .mov (.tmp 30)⟩])
 (.seq (.ops [⟨some 31, none, .mov (.tmp 6)⟩])
 (.cond (.tmp 31)
 (.seq (.ops [⟨some 32, none, .mov (.tmp 0)⟩,
 ⟨some 33, none, .call (.func 90) [(.tmp 32), (.tmp 5)]⟩,
 ⟨some 4, none, .mov (.tmp 33)⟩])
 .ret)
 .skip)))
 (.seq (.ops [⟨some 34, none, .mov (.tmp 0)⟩,
 ⟨some 35, none, .mov (.tmp 1)⟩,
 ⟨some 36, none, .call (.func 91) [(.tmp 34), (.tmp 35)]⟩,
 ⟨some 4, none, .mov (.tmp 36)⟩])
 .ret)))))⟩
theorem ok76 : compF Tryz.prog Tryz.f76 = some c76 := by kernel_rfl
def c77 : CF := ⟨8, [.tmp 4],
 (.seq (.ops [⟨some 4, none, .mov (.const (.string ⟨#[]⟩))⟩])
 (.seq (.ops [⟨some 5, none, .mov (.tmp 0)⟩,
 ⟨some 6, none, .mov (.tmp 1)⟩,
 ⟨some 7, none, .call (.func 92) [(.tmp 5), (.tmp 6)]⟩,
 ⟨some 4, none, .mov (.tmp 7)⟩])
 .ret))⟩
theorem ok77 : compF Tryz.prog Tryz.f77 = some c77 := by kernel_rfl
def c78 : CF := ⟨9, [.tmp 4],
 (.seq (.ops [⟨some 4, none, .mov (.const (.bool false))⟩])
 (.seq (.ops [⟨some 5, none, .mov (.tmp 0)⟩,
 ⟨some 6, none, .mov (.tmp 1)⟩,
 ⟨some 7, none, .call (.func 93) [(.tmp 5), (.tmp 6)]⟩,
 ⟨some 8, none, .bin .geq (.tmp 7) (.const (.int .i64 0))⟩,
 ⟨some 4, none, .mov (.tmp 8)⟩])
 .ret))⟩
theorem ok78 : compF Tryz.prog Tryz.f78 = some c78 := by kernel_rfl
def c79 : CF := ⟨8, [.tmp 4],
 (.seq (.ops [⟨some 4, none, .mov (.const (.bool false))⟩])
 (.seq (.ops [⟨some 5, none, .mov (.tmp 0)⟩,
 ⟨some 6, none, .mov (.tmp 1)⟩,
 ⟨some 7, none, .call (.func 94) [(.tmp 5), (.tmp 6)]⟩,
 ⟨some 4, none, .mov (.tmp 7)⟩])
 .ret))⟩
theorem ok79 : compF Tryz.prog Tryz.f79 = some c79 := by kernel_rfl
def c80 : CF := ⟨26, [.tmp 2, .tmp 3],
 (.seq (.ops [⟨some 2, none, .mov (.const (.slice none 0 0))⟩,
 ⟨some 3, none, .mov (.const (.int .i64 0))⟩])
 (.seq (.seq (.ops [⟨some 10, none, .mov (.tmp 0)⟩,
 ⟨some 11, none, .call (.func 95) [(.tmp 10)]⟩,
 ⟨some 9, none, .mov (.tmp 11)⟩,
 ⟨some 12, none, .ext (.tmp 9) 0⟩,
 ⟨some 13, none, .ext (.tmp 9) 1⟩,
 ⟨some 4, none, .mov (.tmp 12)⟩,
 ⟨some 5, none, .mov (.tmp 13)⟩])
 (.seq (.ops [⟨some 14, none, .mov (.tmp 5)⟩,
 ⟨some 15, none, .bin .neq (.tmp 14) (.const (.int .i64 0))⟩])
 (.cond (.tmp 15)
 (.seq (.ops [⟨some 16, none, .mov (.tmp 5)⟩,
 ⟨some 2, none, .mov (.const (.slice none 0 0))⟩,
 ⟨some 3, none, .mov (.tmp 16)⟩])
 .ret)
 .skip)))
 (.seq (.ops [⟨some 6, none, .newz [(.slice none 0 0)]⟩])
 (.seq (.seq (.ops [⟨some 17, none, .mov (.tmp 0)⟩,
 ⟨some 18, none, .call (.func 96) [(.tmp 17)]⟩])
 (.block 0 (.rangeF (.tmp 18) [19, 20]
 (.ops [⟨some 8, none, .mov (.tmp 20)⟩])
 (.block 1 (.ops [⟨some 21, none, .ld1 (.tmp 6)⟩,
 ⟨some 22, none, .mov (.tmp 8)⟩,
 ⟨some 23, none, .lits [(.int .i32 0)] 1 [(0, 1, (.tmp 22))]⟩,
 ⟨some 24, none, .app 1 4 none (.tmp 21) (.tmp 23)⟩,
 ⟨none, none, .st 1 (.tmp 6) (.tmp 24)⟩])))))
 (.seq (.ops [⟨some 25, none, .ld1 (.tmp 6)⟩,
 ⟨some 2, none, .mov (.tmp 25)⟩,
 ⟨some 3, none, .mov (.const (.int .i64 0))⟩])
 .ret)))))⟩
theorem ok80 : compF Tryz.prog Tryz.f80 = some c80 := by kernel_rfl
def c81 : CF := ⟨42, [.tmp 2, .tmp 3],
 (.seq (.ops [⟨some 2, none, .mov (.const (.int .i64 0))⟩,
 ⟨some 3, none, .mov (.const (.int .i64 0))⟩])
 (.seq (.block 0 (.seq (.ops [⟨some 7, none, .mov (.tmp 0)⟩,
 ⟨some 8, none, .call (.func 97) [(.tmp 7)]⟩,
 ⟨some 9, none, .un .not (.tmp 8)⟩,
 ⟨some 6, none, .mov (.tmp 9)⟩])
 (.cond (.tmp 6)
 (.seq (.ops [⟨some 2, none, .mov (.const (.int .i64 0))⟩,
 ⟨some 3, none, .mov (.const (.int .i64 7))⟩])
 .ret)
 (.seq (.ops [⟨some 11, none, .mov (.tmp 0)⟩,
 ⟨some 12, none, .bin .geq (.tmp 11) (.const (.int .i32 48))⟩,
 ⟨some 13, none, .mov (.tmp 12)⟩,
 ⟨some 14, (some (13, true)), .mov (.tmp 0)⟩,
 ⟨some 15, (some (13, true)), .bin .leq (.tmp 14) (.const (.int .i32 57))⟩,
 ⟨some 16, none, .pick (.tmp 13) (.tmp 15) (.const (.bool false))⟩,
 ⟨some 10, none, .mov (.tmp 16)⟩])
 (.cond (.tmp 10)
 (.seq (.ops [⟨some 2, none, .mov (.const (.int .i64 7))⟩,
 ⟨some 3, none, .mov (.const (.int .i64 0))⟩])
 .ret)
 (.seq (.seq (.ops [⟨some 18, none, .mov (.tmp 0)⟩,
 ⟨some 19, none, .bin .geq (.tmp 18) (.const (.int .i32 97))⟩,
 ⟨some 20, none, .mov (.tmp 19)⟩,
 ⟨some 21, (some (20, true)), .mov (.tmp 0)⟩,
 ⟨some 22, (some (20, true)), .bin .leq (.tmp 21) (.const (.int .i32 122))⟩,
 ⟨some 23, none, .pick (.tmp 20) (.tmp 22) (.const (.bool false))⟩,
 ⟨some 17, none, .mov (.tmp 23)⟩])
 (.cond (.tmp 17)
 .skip
 (.seq (.ops [⟨some 24, none, .mov (.tmp 0)⟩,
 ⟨some 25, none, .bin .geq (.tmp 24) (.const (.int .i32 65))⟩,
 ⟨some 26, none, .mov (.tmp 25)⟩,
 ⟨some 27, (some (26, true)), .mov (.tmp 0)⟩,
 ⟨some 28, (some (26, true)), .bin .leq (.tmp 27) (.const (.int .i32 90))⟩,
 ⟨some 29, none, .pick (.tmp 26) (.tmp 28) (.const (.bool false))⟩,
 ⟨some 17, none, .mov (.tmp 29)⟩])
 (.cond (.tmp 17)
 .skip
 (.ops [⟨some 30, none, .mov (.tmp 0)⟩,
 ⟨some 31, none, .bin .gtr (.tmp 30) (.const (.int .i32 160))⟩,
 ⟨some 17, none, .mov (.tmp 31)⟩])))))
 (.cond (.tmp 17)
 (.seq (.ops [⟨some 2, none, .mov (.const (.int .i64 9))⟩,
 ⟨some 3, none, .mov (.const (.int .i64 0))⟩])
 .ret)
 .skip)))))))
 (.seq (.seq (.ops [⟨some 32, none, .call (.func 98) []⟩,
 ⟨some 33, none, .mov (.const (.int .i64 0))⟩])
 (.block 1 (.loop (.seq (.ops [⟨some 34, none, .bin .lss (.tmp 33) (.const (.int .i64 10))⟩])
 (.seq (.cond (.tmp 34)
 .skip
 (.exit 1))
 (.seq (.block 2 (.seq (.ops [⟨some 35, none, .mov (.tmp 33)⟩,
 ⟨some 36, none, .ida1 10 1 (.tmp 32) (.tmp 33)⟩,
 ⟨some 4, none, .mov (.tmp 35)⟩,
 ⟨some 5, none, .mov (.tmp 36)⟩])
 (.seq (.ops [⟨some 37, none, .mov (.tmp 5)⟩,
 ⟨some 38, none, .mov (.tmp 0)⟩,
 ⟨some 39, none, .call (.func 99) [(.tmp 37), (.tmp 38)]⟩])
 (.cond (.tmp 39)
 (.seq (.ops [⟨some 40, none, .mov (.tmp 4)⟩,
 ⟨some 2, none, .mov (.tmp 40)⟩,
 ⟨some 3, none, .mov (.const (.int .i64 0))⟩])
 .ret)
 .skip))))
 (.ops [⟨some 41, none, .bin .add (.tmp 33) (.const (.int .i64 1))⟩,
 ⟨some 33, none, .mov (.tmp 41)⟩])))))))
 (.seq (.ops [⟨some 2, none, .mov (.const (.int .i64 10))⟩,
 ⟨some 3, none, .mov (.const (.int .i64 0))⟩])
 .ret))))⟩
theorem ok81 : compF Tryz.prog Tryz.f81 = some c81 := by kernel_rfl
def c82 : CF := ⟨17, [.tmp 2],
 (.seq (.ops [⟨some 2, none, .mov (.const (.bool false))⟩])
 (.seq (.ops [⟨some 3, none, .mov (.tmp 0)⟩,
 ⟨some 4, none, .bin .eql (.tmp 3) (.const (.int .i64 4))⟩,
 ⟨some 5, none, .mov (.tmp 4)⟩,
 ⟨some 6, (some (5, false)), .mov (.tmp 0)⟩,
 ⟨some 7, (some (5, false)), .bin .eql (.tmp 6) (.const (.int .i64 6))⟩,
 ⟨some 8, none, .pick (.tmp 5) (.const (.bool true)) (.tmp 7)⟩,
 ⟨some 9, none, .mov (.tmp 8)⟩,
 ⟨some 10, (some (9, false)), .mov (.tmp 0)⟩,
 ⟨some 11, (some (9, false)), .bin .eql (.tmp 10) (.const (.int .i64 9))⟩,
 ⟨some 12, none, .pick (.tmp 9) (.const (.bool true)) (.tmp 11)⟩,
 ⟨some 13, none, .mov (.tmp 12)⟩,
 ⟨some 14, (some (13, false)), .mov (.tmp 0)⟩,
 ⟨some 15, (some (13, false)), .bin .eql (.tmp 14) (.const (.int .i64 7))⟩,
 ⟨some 16, none, .pick (.tmp 13) (.const (.bool true)) (.tmp 15)⟩,
 ⟨some 2, none, .mov (.tmp 16)⟩])
 .ret))⟩
theorem ok82 : compF Tryz.prog Tryz.f82 = some c82 := by kernel_rfl
def c83 : CF := ⟨61, [.tmp 4],
 (.seq (.ops [⟨some 3, none, .box (.tmp 1)⟩,
 ⟨some 4, none, .mov (.const (.int .i64 0))⟩])
 (.seq (.seq (.ops [⟨some 7, none, .fad (.tmp 3) 0⟩,
 ⟨some 8, none, .ld1 (.tmp 7)⟩,
 ⟨some 9, none, .bin .lss (.tmp 8) (.const (.int .i64 0))⟩])
 (.cond (.tmp 9)
 (.seq (.ops [⟨some 4, none, .mov (.const (.int .i64 0))⟩])
 .ret)
 .skip))
 (.seq (.draw [⟨some 10, none, .mov (.tmp 0)⟩,
 ⟨some 11, none, .nilck (.tmp 10)⟩,
 ⟨some 12, none, .fad (.tmp 11) 0⟩,
 ⟨some 13, none, .ld1 (.tmp 12)⟩,
 ⟨some 14, none, .fad (.tmp 3) 0⟩,
 ⟨some 15, none, .ld1 (.tmp 14)⟩,
 ⟨some 16, none, .iad 7 (.tmp 13) (.tmp 15)⟩,
 ⟨some 17, none, .ld 7 (.tmp 16)⟩,
 ⟨some 5, none, .newz [(.int .i64 0), (.int .i64 0), (.int .i64 0), (.string ⟨#[]⟩), (.int .i64 0), (.int .i64 0), (.int .i64 0)]⟩,
 ⟨none, none, .st 7 (.tmp 5) (.tmp 17)⟩] [(0, 4), (1, 4), (2, 4), (3, 4), (0, 5), (1, 5), (2, 5), (3, 5), (0, 8), (1, 8), (2, 8), (3, 8), (4, 8), (5, 8), (6, 8), (7, 8)])
 (.seq (.draw [⟨some 18, none, .mov (.tmp 0)⟩,
 ⟨some 19, none, .fad (.tmp 5) 0⟩,
 ⟨some 20, none, .ld1 (.tmp 19)⟩,
 ⟨some 21, none, .nilck (.tmp 18)⟩,
 ⟨some 22, none, .fad (.tmp 21) 2⟩,
 ⟨some 23, none, .iaa 25 5 (.tmp 22) (.tmp 20)⟩,
 ⟨some 24, none, .ld 5 (.tmp 23)⟩,
 ⟨some 6, none, .newz [(.int .i64 0), (.int .i64 0), (.int .i64 0), (.int .i64 0), (.slice none 0 0)]⟩,
 ⟨none, none, .st 5 (.tmp 6) (.tmp 24)⟩] [(0, 1), (0, 2), (1, 3), (2, 3), (1, 4), (2, 4), (0, 7), (1, 7), (2, 7), (3, 7), (4, 7), (5, 7), (6, 7)])
 (.seq (.block 0 (.seq (.ops [⟨some 26, none, .fad (.tmp 3) 1⟩,
 ⟨some 27, none, .ld1 (.tmp 26)⟩,
 ⟨some 28, none, .fad (.tmp 5) 1⟩,
 ⟨some 29, none, .ld1 (.tmp 28)⟩,
 ⟨some 30, none, .bin .sub (.tmp 29) (.const (.int .i64 1))⟩,
 ⟨some 31, none, .bin .eql (.tmp 27) (.tmp 30)⟩,
 ⟨some 25, none, .mov (.tmp 31)⟩])
 (.cond (.tmp 25)
 (.seq (.ops [⟨some 32, none, .fad (.tmp 6) 3⟩,
 ⟨some 33, none, .ld1 (.tmp 32)⟩,
 ⟨some 4, none, .mov (.tmp 33)⟩])
 .ret)
 (.seq (.ops [⟨some 35, none, .fad (.tmp 5) 0⟩,
 ⟨some 36, none, .ld1 (.tmp 35)⟩,
 ⟨some 37, none, .call (.func 84) [(.tmp 36)]⟩,
 ⟨some 38, none, .mov (.tmp 37)⟩,
 ⟨some 39, (some (38, true)), .fad (.tmp 3) 1⟩,
 ⟨some 40, (some (38, true)), .ld1 (.tmp 39)⟩,
 ⟨some 41, (some (38, true)), .bin .rem (.tmp 40) (.const (.int .i64 2))⟩,
 ⟨some 42, (some (38, true)), .bin .eql (.tmp 41) (.const (.int .i64 1))⟩,
 ⟨some 43, none, .pick (.tmp 38) (.tmp 42) (.const (.bool false))⟩,
 ⟨some 44, none, .mov (.tmp 43)⟩,
 ⟨some 45, (some (44, true)), .fad (.tmp 5) 0⟩,
 ⟨some 46, (some (44, true)), .ld1 (.tmp 45)⟩,
 ⟨some 47, (some (44, true)), .bin .eql (.tmp 46) (.const (.int .i64 14))⟩,
 ⟨some 48, none, .pick (.tmp 44) (.tmp 47) (.const (.bool false))⟩,
 ⟨some 34, none, .mov (.tmp 48)⟩])
 (.cond (.tmp 34)
 (.seq (.ops [⟨some 4, none, .mov (.const (.int .i64 6))⟩])
 .ret)
 (.seq (.ops [⟨some 50, none, .fad (.tmp 5) 0⟩,
 ⟨some 51, none, .ld1 (.tmp 50)⟩,
 ⟨some 52, none, .call (.func 84) [(.tmp 51)]⟩,
 ⟨some 53, none, .mov (.tmp 52)⟩,
 ⟨some 54, (some (53, true)), .fad (.tmp 3) 1⟩,
 ⟨some 55, (some (53, true)), .ld1 (.tmp 54)⟩,
 ⟨some 56, (some (53, true)), .bin .rem (.tmp 55) (.const (.int .i64 2))⟩,
 ⟨some 57, (some (53, true)), .bin .eql (.tmp 56) (.const (.int .i64 1))⟩,
 ⟨some 58, none, .pick (.tmp 53) (.tmp 57) (.const (.bool false))⟩,
 ⟨some 49, none, .mov (.tmp 58)⟩])
 (.cond (.tmp 49)
 (.seq (.ops [⟨some 4, none, .mov (.const (.int .i64 0))⟩])
 .ret)
 .skip)))))))
 (.seq (.ops [⟨some 59, none, .fad (.tmp 6) 2⟩,
 ⟨some 60, none, .ld1 (.tmp 59)⟩,
 ⟨some 4, none, .mov (.tmp 60)⟩])
 .ret))))))⟩
theorem ok83 : compF Tryz.prog Tryz.f83 = some c83 := by kernel_rfl
def c84 : CF := ⟨10, [.tmp 2],
 (.seq (.ops [⟨some 2, none, .mov (.const (.bool false))⟩])
 (.seq (.seq (.ops [⟨some 3, none, .mov (.tmp 0)⟩])
 (.block 0 (.seq (.block 3 (.block 2 (.block 1 (.seq (.seq (.seq (.ops [⟨some 5, none, .bin .eql (.tmp 3) (.const (.int .i64 12))⟩,
 ⟨some 4, none, .mov (.tmp 5)⟩])
 (.cond (.tmp 4)
 (.exit 1)
 .skip))
 (.seq (.seq (.ops [⟨some 7, none, .bin .eql (.tmp 3) (.const (.int .i64 13))⟩,
 ⟨some 6, none, .mov (.tmp 7)⟩])
 (.cond (.tmp 6)
 (.exit 2)
 .skip))
 (.seq (.ops [⟨some 9, none, .bin .eql (.tmp 3) (.const (.int .i64 14))⟩,
 ⟨some 8, none, .mov (.tmp 9)⟩])
 (.cond (.tmp 8)
 (.exit 3)
 .skip))))
 (.exit 0)))))
 (.seq (.seq (.ops [⟨some 2, none, .mov (.const (.bool true))⟩])
 .ret)
 (.exit 0)))))
 (.seq (.ops [⟨some 2, none, .mov (.const (.bool false))⟩])
 .ret)))⟩
theorem ok84 : compF Tryz.prog Tryz.f84 = some c84 := by kernel_rfl
def c85 : CF := ⟨9, [.tmp 4],
 (.seq (.ops [⟨some 4, none, .mov (.const (.bool false))⟩])
 (.seq (.ops [⟨some 5, none, .mov (.tmp 0)⟩,
 ⟨some 6, none, .mov (.tmp 1)⟩,
 ⟨some 7, none, .call (.func 100) [(.tmp 5), (.tmp 6)]⟩,
 ⟨some 8, none, .bin .geq (.tmp 7) (.const (.int .i64 0))⟩,
 ⟨some 4, none, .mov (.tmp 8)⟩])
 .ret))⟩
theorem ok85 : compF Tryz.prog Tryz.f85 = some c85 := by kernel_rfl
def c86 : CF := ⟨98, [.tmp 6],
 (.seq (.ops [⟨some 6, none, .mov (.const (.bool false))⟩])
 (.seq (.ops [⟨some 11, none, .mov (.tmp 0)⟩,
 ⟨some 12, none, .nilck (.tmp 11)⟩,
 ⟨some 13, none, .fad (.tmp 12) 1⟩,
 ⟨some 14, none, .ld1 (.tmp 13)⟩,
 ⟨some 15, none, .mov (.tmp 1)⟩,
 ⟨some 16, none, .iad 3 (.tmp 14) (.tmp 15)⟩,
 ⟨some 17, none, .fad (.tmp 16) 0⟩,
 ⟨some 18, none, .ld1 (.tmp 17)⟩,
 ⟨some 7, none, .mov (.tmp 18)⟩])
 (.seq (.ops [⟨some 19, none, .mov (.tmp 2)⟩,
 ⟨some 8, none, .mov (.tmp 19)⟩])
 (.seq (.block 0 (.loop (.seq (.seq (.ops [⟨some 20, none, .mov (.tmp 8)⟩,
 ⟨some 21, none, .bin .geq (.tmp 20) (.const (.int .i64 0))⟩,
 ⟨some 22, none, .mov (.tmp 21)⟩,
 ⟨some 23, (some (22, true)), .mov (.tmp 0)⟩,
 ⟨some 24, (some (22, true)), .nilck (.tmp 23)⟩,
 ⟨some 25, (some (22, true)), .fad (.tmp 24) 1⟩,
 ⟨some 26, (some (22, true)), .ld1 (.tmp 25)⟩,
 ⟨some 27, (some (22, true)), .mov (.tmp 8)⟩,
 ⟨some 28, (some (22, true)), .iad 3 (.tmp 26) (.tmp 27)⟩,
 ⟨some 29, (some (22, true)), .fad (.tmp 28) 0⟩,
 ⟨some 30, (some (22, true)), .ld1 (.tmp 29)⟩,
 ⟨some 31, (some (22, true)), .mov (.tmp 7)⟩,
 ⟨some 32, (some (22, true)), .bin .neq (.tmp 30) (.tmp 31)⟩,
 ⟨some 33, none, .pick (.tmp 22) (.tmp 32) (.const (.bool false))⟩])
 (.cond (.tmp 33)
 .skip
 (.exit 0)))
 (.block 1 (.ops [⟨some 34, none, .mov (.tmp 0)⟩,
 ⟨some 35, none, .nilck (.tmp 34)⟩,
 ⟨some 36, none, .fad (.tmp 35) 1⟩,
 ⟨some 37, none, .ld1 (.tmp 36)⟩,
 ⟨some 38, none, .mov (.tmp 8)⟩,
 ⟨some 39, none, .iad 3 (.tmp 37) (.tmp 38)⟩,
 ⟨some 40, none, .fad (.tmp 39) 0⟩,
 ⟨some 41, none, .ld1 (.tmp 40)⟩,
 ⟨some 8, none, .mov (.tmp 41)⟩])))))
 (.seq (.seq (.ops [⟨some 42, none, .mov (.tmp 8)⟩,
 ⟨some 43, none, .bin .lss (.tmp 42) (.const (.int .i64 0))⟩,
 ⟨some 44, none, .mov (.tmp 43)⟩,
 ⟨some 45, (some (44, false)), .mov (.tmp 8)⟩,
 ⟨some 46, (some (44, false)), .mov (.tmp 1)⟩,
 ⟨some 47, (some (44, false)), .bin .eql (.tmp 45) (.tmp 46)⟩,
 ⟨some 48, none, .pick (.tmp 44) (.const (.bool true)) (.tmp 47)⟩])
 (.cond (.tmp 48)
 (.seq (.ops [⟨some 6, none, .mov (.const (.bool false))⟩])
 .ret)
 .skip))
 (.seq (.draw [⟨some 49, none, .mov (.tmp 0)⟩,
 ⟨some 50, none, .nilck (.tmp 49)⟩,
 ⟨some 51, none, .fad (.tmp 50) 0⟩,
 ⟨some 52, none, .ld1 (.tmp 51)⟩,
 ⟨some 53, none, .mov (.tmp 7)⟩,
 ⟨some 54, none, .iad 7 (.tmp 52) (.tmp 53)⟩,
 ⟨some 55, none, .ld 7 (.tmp 54)⟩,
 ⟨some 56, none, .mov (.tmp 0)⟩,
 ⟨some 57, none, .nilck (.tmp 56)⟩,
 ⟨some 58, none, .fad (.tmp 57) 1⟩,
 ⟨some 59, none, .ld1 (.tmp 58)⟩,
 ⟨some 60, none, .mov (.tmp 8)⟩,
 ⟨some 61, none, .iad 3 (.tmp 59) (.tmp 60)⟩,
 ⟨some 62, none, .fad (.tmp 61) 1⟩,
 ⟨some 63, none, .ld1 (.tmp 62)⟩,
 ⟨some 9, none, .newz [(.int .i64 0), (.int .i64 0), (.int .i64 0), (.string ⟨#[]⟩), (.int .i64 0), (.int .i64 0), (.int .i64 0)]⟩,
 ⟨none, none, .st 7 (.tmp 9) (.tmp 55)⟩,
 ⟨some 10, none, .mov (.tmp 63)⟩] [(0, 4), (1, 4), (2, 4), (3, 4), (0, 7), (1, 7), (2, 7), (3, 7), (4, 7), (5, 7), (6, 7), (0, 8), (1, 8), (2, 8), (3, 8), (4, 8), (5, 8), (6, 8), (0, 9), (1, 9), (2, 9), (3, 9), (4, 9), (5, 9), (6, 9), (0, 10), (1, 10), (2, 10), (3, 10), (4, 10), (5, 10), (6, 10), (0, 11), (1, 11), (2, 11), (3, 11), (4, 11), (5, 11), (6, 11), (7, 11), (8, 11), (9, 11), (10, 11), (0, 12), (1, 12), (2, 12), (3, 12), (4, 12), (5, 12), (6, 12), (0, 13), (1, 13), (2, 13), (3, 13), (4, 13), (5, 13), (6, 13), (0, 14), (1, 14), (2, 14), (3, 14), (4, 14), (5, 14), (6, 14), (0, 15), (1, 15), (2, 15), (3, 15), (4, 15), (5, 15), (6, 15), (7, 15), (8, 15), (9, 15), (10, 15), (11, 15), (12, 15), (13, 15), (14, 15), (7, 16), (8, 16), (9, 16), (10, 16), (11, 16), (12, 16), (13, 16), (14, 16)])
 (.seq (.block 2 (.seq (.ops [⟨some 65, none, .mov (.tmp 10)⟩,
 ⟨some 66, none, .fad (.tmp 9) 1⟩,
 ⟨some 67, none, .ld1 (.tmp 66)⟩,
 ⟨some 68, none, .bin .sub (.tmp 67) (.const (.int .i64 1))⟩,
 ⟨some 69, none, .bin .eql (.tmp 65) (.tmp 68)⟩,
 ⟨some 64, none, .mov (.tmp 69)⟩])
 (.cond (.tmp 64)
 (.seq (.ops [⟨some 6, none, .mov (.const (.bool true))⟩])
 .ret)
 (.seq (.ops [⟨some 71, none, .fad (.tmp 9) 0⟩,
 ⟨some 72, none, .ld1 (.tmp 71)⟩,
 ⟨some 73, none, .bin .eql (.tmp 72) (.const (.int .i64 14))⟩,
 ⟨some 70, none, .mov (.tmp 73)⟩])
 (.cond (.tmp 70)
 (.seq (.ops [⟨some 74, none, .mov (.tmp 10)⟩,
 ⟨some 75, none, .bin .rem (.tmp 74) (.const (.int .i64 2))⟩,
 ⟨some 76, none, .bin .eql (.tmp 75) (.const (.int .i64 1))⟩,
 ⟨some 6, none, .mov (.tmp 76)⟩])
 .ret)
 .skip)))))
 (.seq (.ops [⟨some 77, none, .fad (.tmp 9) 0⟩,
 ⟨some 78, none, .ld1 (.tmp 77)⟩,
 ⟨some 79, none, .bin .eql (.tmp 78) (.const (.int .i64 13))⟩,
 ⟨some 80, none, .mov (.tmp 79)⟩,
 ⟨some 81, (some (80, true)), .mov (.tmp 10)⟩,
 ⟨some 82, (some (80, true)), .bin .rem (.tmp 81) (.const (.int .i64 2))⟩,
 ⟨some 83, (some (80, true)), .bin .eql (.tmp 82) (.const (.int .i64 1))⟩,
 ⟨some 84, none, .pick (.tmp 80) (.tmp 83) (.const (.bool false))⟩,
 ⟨some 85, none, .mov (.tmp 84)⟩,
 ⟨some 86, (some (85, true)), .mov (.tmp 10)⟩,
 ⟨some 87, (some (85, true)), .mov (.tmp 0)⟩,
 ⟨some 88, (some (85, true)), .nilck (.tmp 87)⟩,
 ⟨some 89, (some (85, true)), .fad (.tmp 88) 1⟩,
 ⟨some 90, (some (85, true)), .ld1 (.tmp 89)⟩,
 ⟨some 91, (some (85, true)), .mov (.tmp 1)⟩,
 ⟨some 92, (some (85, true)), .iad 3 (.tmp 90) (.tmp 91)⟩,
 ⟨some 93, (some (85, true)), .fad (.tmp 92) 1⟩,
 ⟨some 94, (some (85, true)), .ld1 (.tmp 93)⟩,
 ⟨some 95, (some (85, true)), .bin .add (.tmp 94) (.const (.int .i64 1))⟩,
 ⟨some 96, (some (85, true)), .bin .gtr (.tmp 86) (.tmp 95)⟩,
 ⟨some 97, none, .pick (.tmp 85) (.tmp 96) (.const (.bool false))⟩,
 ⟨some 6, none, .mov (.tmp 97)⟩])
 .ret))))))))⟩
theorem ok86 : compF Tryz.prog Tryz.f86 = some c86 := by kernel_rfl
def c87 : CF := ⟨47, [.tmp 6],
 (.seq (.ops [⟨some 6, none, .mov (.const (.bool false))⟩])
 (.seq (.seq (.ops [⟨some 9, none, .mov (.tmp 0)⟩,
 ⟨some 10, none, .nilck (.tmp 9)⟩,
 ⟨some 11, none, .fad (.tmp 10) 0⟩,
 ⟨some 12, none, .ld1 (.tmp 11)⟩,
 ⟨some 13, none, .lnl (.tmp 12)⟩,
 ⟨some 14, none, .mov (.const (.int .i64 0))⟩])
 (.block 0 (.loop (.seq (.ops [⟨some 15, none, .bin .lss (.tmp 14) (.tmp 13)⟩])
 (.seq (.cond (.tmp 15)
 .skip
 (.exit 0))
 (.seq (.block 1 (.seq (.ops [⟨some 16, none, .mov (.tmp 14)⟩,
 ⟨some 17, none, .iad 7 (.tmp 12) (.tmp 14)⟩,
 ⟨some 18, none, .ld 7 (.tmp 17)⟩,
 ⟨some 8, none, .newz [(.int .i64 0), (.int .i64 0), (.int .i64 0), (.string ⟨#[]⟩), (.int .i64 0), (.int .i64 0), (.int .i64 0)]⟩,
 ⟨some 7, none, .mov (.tmp 16)⟩,
 ⟨none, none, .st 7 (.tmp 8) (.tmp 18)⟩])
 (.seq (.draw [⟨some 19, none, .mov (.tmp 7)⟩,
 ⟨some 20, none, .mov (.tmp 1)⟩,
 ⟨some 21, none, .bin .gtr (.tmp 19) (.tmp 20)⟩,
 ⟨some 22, none, .mov (.tmp 21)⟩,
 ⟨some 23, (some (22, true)), .fad (.tmp 8) 0⟩,
 ⟨some 24, (some (22, true)), .ld1 (.tmp 23)⟩,
 ⟨some 25, (some (22, true)), .bin .eql (.tmp 24) (.const (.int .i64 9))⟩,
 ⟨some 26, none, .pick (.tmp 22) (.tmp 25) (.const (.bool false))⟩,
 ⟨some 27, none, .mov (.tmp 26)⟩,
 ⟨some 28, (some (27, true)), .fad (.tmp 8) 2⟩,
 ⟨some 29, (some (27, true)), .ld1 (.tmp 28)⟩,
 ⟨some 30, (some (27, true)), .mov (.tmp 0)⟩,
 ⟨some 31, (some (27, true)), .nilck (.tmp 30)⟩,
 ⟨some 32, (some (27, true)), .fad (.tmp 31) 0⟩,
 ⟨some 33, (some (27, true)), .ld1 (.tmp 32)⟩,
 ⟨some 34, (some (27, true)), .mov (.tmp 1)⟩,
 ⟨some 35, (some (27, true)), .iad 7 (.tmp 33) (.tmp 34)⟩,
 ⟨some 36, (some (27, true)), .fad (.tmp 35) 2⟩,
 ⟨some 37, (some (27, true)), .ld1 (.tmp 36)⟩,
 ⟨some 38, (some (27, true)), .bin .eql (.tmp 29) (.tmp 37)⟩,
 ⟨some 39, none, .pick (.tmp 27) (.tmp 38) (.const (.bool false))⟩,
 ⟨some 40, none, .mov (.tmp 39)⟩,
 ⟨some 41, (some (40, true)), .mov (.tmp 0)⟩,
 ⟨some 42, (some (40, true)), .mov (.tmp 7)⟩,
 ⟨some 43, (some (40, true)), .mov (.tmp 2)⟩,
 ⟨some 44, (some (40, true)), .call (.func 86) [(.tmp 41), (.tmp 42), (.tmp 43)]⟩,
 ⟨some 45, none, .pick (.tmp 40) (.tmp 44) (.const (.bool false))⟩] [(0, 1), (9, 11), (10, 11), (9, 12), (10, 12), (9, 13), (10, 13), (9, 14), (10, 14), (9, 15), (10, 15), (11, 15), (12, 15), (13, 15), (14, 15), (9, 16), (10, 16), (9, 17), (10, 17), (9, 18), (10, 18), (22, 23), (22, 24), (23, 24)])
 (.cond (.tmp 45)
 (.seq (.ops [⟨some 6, none, .mov (.const (.bool true))⟩])
 .ret)
 .skip))))
 (.ops [⟨some 46, none, .bin .add (.tmp 14) (.const (.int .i64 1))⟩,
 ⟨some 14, none, .mov (.tmp 46)⟩])))))))
 (.seq (.ops [⟨some 6, none, .mov (.const (.bool false))⟩])
 .ret)))⟩
theorem ok87 : compF Tryz.prog Tryz.f87 = some c87 := by kernel_rfl
def c88 : CF := ⟨17, [.tmp 4],
 (.seq (.ops [⟨some 4, none, .mov (.const (.string ⟨#[]⟩))⟩])
 (.seq (.block 0 (.loop (.seq (.seq (.ops [⟨some 5, none, .mov (.tmp 0)⟩,
 ⟨some 6, none, .lns (.tmp 5)⟩,
 ⟨some 7, none, .bin .gtr (.tmp 6) (.const (.int .i64 0))⟩,
 ⟨some 8, none, .mov (.tmp 7)⟩,
 ⟨some 9, (some (8, true)), .mov (.tmp 0)⟩,
 ⟨some 10, (some (8, true)), .ids (.tmp 9) (.const (.int .i64 0))⟩,
 ⟨some 11, (some (8, true)), .mov (.tmp 1)⟩,
 ⟨some 12, (some (8, true)), .bin .eql (.tmp 10) (.tmp 11)⟩,
 ⟨some 13, none, .pick (.tmp 8) (.tmp 12) (.const (.bool false))⟩])
 (.cond (.tmp 13)
 .skip
 (.exit 0)))
 (.block 1 (.ops [⟨some 14, none, .mov (.tmp 0)⟩,
 ⟨some 15, none, .sls (.tmp 14) (some (.const (.int .i64 1))) none⟩,
 ⟨some 0, none, .mov (.tmp 15)⟩])))))
 (.seq (.ops [⟨some 16, none, .mov (.tmp 0)⟩,
 ⟨some 4, none, .mov (.tmp 16)⟩])
 .ret)))⟩
theorem ok88 : compF Tryz.prog Tryz.f88 = some c88 := by kernel_rfl
def c89 : CF := ⟨21, [.cells 2 256, .tmp 3],
 (.seq (.ops [⟨some 2, none, .newz [(.bool false), (.bool false), (.bool false), (.bool false), (.bool false), (.bool false), (.bool false), (.bool false), (.bool false), (.bool false), (.bool false), (.bool false), (.bool false), (.bool false), (.bool false), (.bool false), (.bool false), (.bool false), (.bool false), (.bool false), (.bool false), (.bool false), (.bool false), (.bool false), (.bool false), (.bool false), (.bool false), (.bool false), (.bool false), (.bool false), (.bool false), (.bool false), (.bool false), (.bool false), (.bool false), (.bool false), (.bool false), (.bool false), (.bool false), (.bool false), (.bool false), (.bool false), (.bool false), (.bool false), (.bool false), (.bool false), (.bool false), (.bool false), (.bool false), (.bool false), (.bool false), (.bool false), (.bool false), (.bool false), (.bool false), (.bool false), (.bool false), (.bool false), (.bool false), (.bool false), (.bool false), (.bool false), (.bool false), (.bool false), (.bool false), (.bool false), (.bool false), (.bool false), (.bool false), (.bool false), (.bool false), (.bool false), (.bool false), (.bool false), (.bool false), (.bool false), (.bool false), (.bool false), (.bool false), (.bool false), (.bool false), (.bool false), (.bool false), (.bool false), (.bool false), (.bool false), (.bool false), (.bool false), (.bool false), (.bool false), (.bool false), (.bool false), (.bool false), (.bool false), (.bool false), (.bool false), (.bool false), (.bool false), (.bool false), (.bool false), (.bool false), (.bool false), (.bool false), (.bool false), (.bool false), (.bool false), (.bool false), (.bool false), (.bool false), (.bool false), (.bool false), (.bool false), (.bool false), (.bool false), (.bool false), (.bool false), (.bool false), (.bool false), (.bool false), (.bool false), (.bool false), (.bool false), (.bool false), (.bool false), (.bool false), (.bool false), (.bool false), (.bool false), (.bool false), (.bool false), (.bool false), (.bool false), (.bool false), (.bool false), (.bool false), (.bool false), (.bool false), (.bool false), (.bool false), (.bool false), (.bool false), (.bool false), (.bool false), (.bool false), (.bool false), (.bool false), (.bool false), (.bool false), (.bool false), (.bool false), (.bool false), (.bool false), (.bool false), (.bool false), (.bool false), (.bool false), (.bool false), (.bool false), (.bool false), (.bool false), (.bool false), (.bool false), (.bool false), (.bool false), (.bool false), (.bool false), (.bool false), (.bool false), (.bool false), (.bool false), (.bool false), (.bool false), (.bool false), (.bool false), (.bool false), (.bool false), (.bool false), (.bool false), (.bool false), (.bool false), (.bool false), (.bool false), (.bool false), (.bool false), (.bool false), (.bool false), (.bool false), (.bool false), (.bool false), (.bool false), (.bool false), (.bool false), (.bool false), (.bool false), (.bool false), (.bool false), (.bool false), (.bool false), (.bool false), (.bool false), (.bool false), (.bool false), (.bool false), (.bool false), (.bool false), (.bool false), (.bool false), (.bool false), (.bool false), (.bool false), (.bool false), (.bool false), (.bool false), (.bool false), (.bool false), (.bool false), (.bool false), (.bool false), (.bool false), (.bool false), (.bool false), (.bool false), (.bool false), (.bool false), (.bool false), (.bool false), (.bool false), (.bool false), (.bool false), (.bool false), (.bool false), (.bool false), (.bool false), (.bool false), (.bool false), (.bool false), (.bool false), (.bool false), (.bool false), (.bool false), (.bool false), (.bool false), (.bool false), (.bool false), (.bool false), (.bool false), (.bool false), (.bool false), (.bool false), (.bool false), (.bool false), (.bool false), (.bool false), (.bool false), (.bool false), (.bool false)]⟩,
 ⟨some 3, none, .mov (.const (.bool false))⟩])
 (.seq (.seq (.ops [⟨some 4, none, .mov (.const (.int .i64 0))⟩])
 (.block 0 (.loop (.seq (.seq (.ops [⟨some 6, none, .mov (.tmp 4)⟩,
 ⟨some 7, none, .mov (.tmp 0)⟩,
 ⟨some 8, none, .lns (.tmp 7)⟩,
 ⟨some 9, none, .bin .lss (.tmp 6) (.tmp 8)⟩])
 (.cond (.tmp 9)
 .skip
 (.exit 0)))
 (.seq (.block 1 (.seq (.ops [⟨some 12, none, .mov (.tmp 0)⟩,
 ⟨some 13, none, .mov (.tmp 4)⟩,
 ⟨some 14, none, .ids (.tmp 12) (.tmp 13)⟩,
 ⟨some 5, none, .mov (.tmp 14)⟩])
 (.seq (.seq (.ops [⟨some 15, none, .mov (.tmp 5)⟩,
 ⟨some 16, none, .bin .geq (.tmp 15) (.const (.int .u8 128))⟩])
 (.cond (.tmp 16)
 (.seq (.ops [⟨some 17, none, .ld 256 (.tmp 2)⟩,
 ⟨none, none, .st 256 (.tmp 2) (.tmp 17)⟩,
 ⟨some 3, none, .mov (.const (.bool false))⟩])
 .ret)
 .skip))
 (.ops [⟨some 18, none, .mov (.tmp 5)⟩,
 ⟨some 19, none, .iaa 256 1 (.tmp 2) (.tmp 18)⟩,
 ⟨none, none, .st 1 (.tmp 19) (.const (.bool true))⟩]))))
 (.ops [⟨some 10, none, .mov (.tmp 4)⟩,
 ⟨some 11, none, .bin .add (.tmp 10) (.const (.int .i64 1))⟩,
 ⟨some 4, none, .mov (.tmp 11)⟩]))))))
 (.seq (.ops [⟨some 20, none, .ld 256 (.tmp 2)⟩,
 ⟨none, none, .st 256 (.tmp 2) (.tmp 20)⟩,
 ⟨some 3, none, .mov (.const (.bool true))⟩])
 .ret)))⟩
theorem ok89 : compF Tryz.prog Tryz.f89 = some c89 := by kernel_rfl
def c90 : CF := ⟨16, [.tmp 4],
 (.seq (.ops [⟨some 4, none, .mov (.const (.string ⟨#[]⟩))⟩])
 (.seq (.block 0 (.loop (.seq (.seq (.ops [⟨some 5, none, .mov (.tmp 0)⟩,
 ⟨some 6, none, .lns (.tmp 5)⟩,
 ⟨some 7, none, .bin .gtr (.tmp 6) (.const (.int .i64 0))⟩])
 (.cond (.tmp 7)
 .skip
 (.exit 0)))
 (.block 1 (.seq (.seq (.ops [⟨some 8, none, .mov (.tmp 1)⟩,
 ⟨some 9, none, .mov (.tmp 0)⟩,
 ⟨some 10, none, .ids (.tmp 9) (.const (.int .i64 0))⟩,
 ⟨some 11, none, .call (.func 101) [(.tmp 8), (.tmp 10)]⟩,
 ⟨some 12, none, .un .not (.tmp 11)⟩])
 (.cond (.tmp 12)
 (.exit 0)
 .skip))
 (.ops [⟨some 13, none, .mov (.tmp 0)⟩,
 ⟨some 14, none, .sls (.tmp 13) (some (.const (.int .i64 1))) none⟩,
 ⟨some 0, none, .mov (.tmp 14)⟩]))))))
 (.seq (.ops [⟨some 15, none, .mov (.tmp 0)⟩,
 ⟨some 4, none, .mov (.tmp 15)⟩])
 .ret)))⟩
theorem ok90 : compF Tryz.prog Tryz.f90 = some c90 := by kernel_rfl
def c91 : CF := ⟨23, [.tmp 4],
 (.seq (.ops [⟨some 4, none, .mov (.const (.string ⟨#[]⟩))⟩])
 (.seq (.block 0 (.loop (.seq (.seq (.ops [⟨some 7, none, .mov (.tmp 0)⟩,
 ⟨some 8, none, .lns (.tmp 7)⟩,
 ⟨some 9, none, .bin .gtr (.tmp 8) (.const (.int .i64 0))⟩])
 (.cond (.tmp 9)
 .skip
 (.exit 0)))
 (.block 1 (.seq (.ops [⟨some 11, none, .mov (.tmp 0)⟩,
 ⟨some 12, none, .call (.func 102) [(.tmp 11)]⟩,
 ⟨some 10, none, .mov (.tmp 12)⟩,
 ⟨some 13, none, .ext (.tmp 10) 0⟩,
 ⟨some 14, none, .ext (.tmp 10) 1⟩,
 ⟨some 5, none, .mov (.tmp 13)⟩,
 ⟨some 6, none, .mov (.tmp 14)⟩])
 (.seq (.seq (.ops [⟨some 15, none, .mov (.tmp 1)⟩,
 ⟨some 16, none, .mov (.tmp 5)⟩,
 ⟨some 17, none, .call (.func 103) [(.tmp 15), (.tmp 16)]⟩,
 ⟨some 18, none, .un .not (.tmp 17)⟩])
 (.cond (.tmp 18)
 (.exit 0)
 .skip))
 (.ops [⟨some 19, none, .mov (.tmp 0)⟩,
 ⟨some 20, none, .mov (.tmp 6)⟩,
 ⟨some 21, none, .sls (.tmp 19) (some (.tmp 20)) none⟩,
 ⟨some 0, none, .mov (.tmp 21)⟩])))))))
 (.seq (.ops [⟨some 22, none, .mov (.tmp 0)⟩,
 ⟨some 4, none, .mov (.tmp 22)⟩])
 .ret)))⟩
theorem ok91 : compF Tryz.prog Tryz.f91 = some c91 := by kernel_rfl
def c92 : CF := ⟨13, [.tmp 4],
 (.seq (.ops [⟨some 4, none, .mov (.const (.string ⟨#[]⟩))⟩])
 (.seq (.seq (.ops [⟨some 5, none, .mov (.tmp 0)⟩,
 ⟨some 6, none, .mov (.tmp 1)⟩,
 ⟨some 7, none, .call (.func 94) [(.tmp 5), (.tmp 6)]⟩])
 (.cond (.tmp 7)
 (.seq (.ops [⟨some 8, none, .mov (.tmp 0)⟩,
 ⟨some 9, none, .mov (.tmp 1)⟩,
 ⟨some 10, none, .lns (.tmp 9)⟩,
 ⟨some 11, none, .sls (.tmp 8) (some (.tmp 10)) none⟩,
 ⟨some 4, none, .mov (.tmp 11)⟩])
 .ret)
 .skip))
 (.seq (.ops [⟨some 12, none, .mov (.tmp 0)⟩,
 ⟨some 4, none, .mov (.tmp 12)⟩])
 .ret)))⟩
theorem ok92 : compF Tryz.prog Tryz.f92 = some c92 := by kernel_rfl
end Go.Proofs.YtjmohjemgohlpaaGreatDoor.code
