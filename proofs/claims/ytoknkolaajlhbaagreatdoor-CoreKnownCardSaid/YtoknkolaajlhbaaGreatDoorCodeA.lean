/- The code that the law reaches, as the interpreter takes it; each function's is shown to be the program's own. By an AI agent. No person has read it. -/
import Derived.Test.YtoknkolaajlhbaaGreatDoorAm4
import Derived.Test.YtoknkolaajlhbaaGreatDoorChecked
import Derived.KernelRfl
namespace Go.Proofs.YtoknkolaajlhbaaGreatDoor.code
open Go Am
set_option maxRecDepth 100000
def c3 : CF := ⟨150, [.tmp 0],
 (.seq (.ops [⟨some 0, none, .mov (.const (.bool false))⟩])
 (.seq (.ops [⟨some 23, none, .agg [(.int .i64 0), (.int .i64 0), (.int .i64 0), (.string ⟨#[]⟩), (.int .i32 0), (.int .i32 0)] [(0, 1, (.const (.int .i64 9))), (1, 1, (.const (.int .i64 2)))]⟩,
 ⟨some 24, none, .agg [(.int .i64 0), (.int .i64 0), (.int .i64 0), (.string ⟨#[]⟩), (.int .i32 0), (.int .i32 0)] [(0, 1, (.const (.int .i64 7))), (2, 1, (.const (.int .i64 1)))]⟩,
 ⟨some 25, none, .agg [(.int .i64 0), (.int .i64 0), (.int .i64 0), (.string ⟨#[]⟩), (.int .i32 0), (.int .i32 0)] [(0, 1, (.const (.int .i64 7))), (2, 1, (.const (.int .i64 2)))]⟩,
 ⟨some 26, none, .lits [(.int .i64 0), (.int .i64 0), (.int .i64 0), (.string ⟨#[]⟩), (.int .i32 0), (.int .i32 0), (.int .i64 0), (.int .i64 0), (.int .i64 0), (.string ⟨#[]⟩), (.int .i32 0), (.int .i32 0), (.int .i64 0), (.int .i64 0), (.int .i64 0), (.string ⟨#[]⟩), (.int .i32 0), (.int .i32 0)] 3 [(0, 6, (.tmp 23)), (6, 6, (.tmp 24)), (12, 6, (.tmp 25))]⟩,
 ⟨some 1, none, .mov (.tmp 26)⟩])
 (.seq (.ops [⟨some 28, none, .mov (.tmp 1)⟩,
 ⟨some 29, none, .lits [(.int .i64 0), (.int .i64 0)] 2 [(0, 1, (.const (.int .i64 2))), (1, 1, (.const (.int .i64 1)))]⟩,
 ⟨some 30, none, .call (.func 4) [(.tmp 28), (.tmp 29)]⟩,
 ⟨some 27, none, .mov (.tmp 30)⟩,
 ⟨some 31, none, .ext (.tmp 27) 0⟩,
 ⟨some 32, none, .ext (.tmp 27) 1⟩,
 ⟨some 33, none, .ext (.tmp 27) 2⟩,
 ⟨some 2, none, .mov (.tmp 31)⟩,
 ⟨some 3, none, .mov (.tmp 32)⟩,
 ⟨some 4, none, .mov (.tmp 33)⟩])
 (.seq (.ops [⟨some 35, none, .mov (.tmp 1)⟩,
 ⟨some 36, none, .lits [(.int .i64 0)] 1 [(0, 1, (.const (.int .i64 1)))]⟩,
 ⟨some 37, none, .call (.func 4) [(.tmp 35), (.tmp 36)]⟩,
 ⟨some 34, none, .mov (.tmp 37)⟩,
 ⟨some 38, none, .ext (.tmp 34) 0⟩,
 ⟨some 39, none, .ext (.tmp 34) 1⟩,
 ⟨some 40, none, .ext (.tmp 34) 2⟩,
 ⟨some 5, none, .mov (.tmp 38)⟩,
 ⟨some 6, none, .mov (.tmp 39)⟩,
 ⟨some 7, none, .mov (.tmp 40)⟩])
 (.seq (.ops [⟨some 41, none, .agg [(.int .i64 0), (.int .i64 0), (.int .i64 0), (.string ⟨#[]⟩), (.int .i32 0), (.int .i32 0)] [(0, 1, (.const (.int .i64 8))), (1, 1, (.const (.int .i64 2))), (2, 1, (.const (.int .i64 1)))]⟩,
 ⟨some 42, none, .agg [(.int .i64 0), (.int .i64 0), (.int .i64 0), (.string ⟨#[]⟩), (.int .i32 0), (.int .i32 0)] [(0, 1, (.const (.int .i64 12))), (2, 1, (.const (.int .i64 3)))]⟩,
 ⟨some 43, none, .agg [(.int .i64 0), (.int .i64 0), (.int .i64 0), (.string ⟨#[]⟩), (.int .i32 0), (.int .i32 0)] [(0, 1, (.const (.int .i64 9))), (1, 1, (.const (.int .i64 2)))]⟩,
 ⟨some 44, none, .agg [(.int .i64 0), (.int .i64 0), (.int .i64 0), (.string ⟨#[]⟩), (.int .i32 0), (.int .i32 0)] [(0, 1, (.const (.int .i64 7))), (2, 1, (.const (.int .i64 3)))]⟩,
 ⟨some 45, none, .agg [(.int .i64 0), (.int .i64 0), (.int .i64 0), (.string ⟨#[]⟩), (.int .i32 0), (.int .i32 0)] [(0, 1, (.const (.int .i64 7))), (2, 1, (.const (.int .i64 4)))]⟩,
 ⟨some 46, none, .lits [(.int .i64 0), (.int .i64 0), (.int .i64 0), (.string ⟨#[]⟩), (.int .i32 0), (.int .i32 0), (.int .i64 0), (.int .i64 0), (.int .i64 0), (.string ⟨#[]⟩), (.int .i32 0), (.int .i32 0), (.int .i64 0), (.int .i64 0), (.int .i64 0), (.string ⟨#[]⟩), (.int .i32 0), (.int .i32 0), (.int .i64 0), (.int .i64 0), (.int .i64 0), (.string ⟨#[]⟩), (.int .i32 0), (.int .i32 0), (.int .i64 0), (.int .i64 0), (.int .i64 0), (.string ⟨#[]⟩), (.int .i32 0), (.int .i32 0)] 5 [(0, 6, (.tmp 41)), (6, 6, (.tmp 42)), (12, 6, (.tmp 43)), (18, 6, (.tmp 44)), (24, 6, (.tmp 45))]⟩,
 ⟨some 8, none, .mov (.tmp 46)⟩])
 (.seq (.ops [⟨some 48, none, .mov (.tmp 8)⟩,
 ⟨some 49, none, .call (.func 5) [(.tmp 48), (.const (.bool true))]⟩,
 ⟨some 47, none, .mov (.tmp 49)⟩,
 ⟨some 50, none, .ext (.tmp 47) 0⟩,
 ⟨some 51, none, .ext (.tmp 47) 1⟩,
 ⟨some 9, none, .mov (.tmp 50)⟩,
 ⟨some 10, none, .mov (.tmp 51)⟩])
 (.seq (.ops [⟨some 53, none, .agg [(.int .i64 0), (.int .i64 0), (.int .i64 0), (.string ⟨#[]⟩), (.int .i32 0), (.int .i32 0)] [(0, 1, (.const (.int .i64 8))), (1, 1, (.const (.int .i64 1))), (2, 1, (.const (.int .i64 1)))]⟩,
 ⟨some 54, none, .agg [(.int .i64 0), (.int .i64 0), (.int .i64 0), (.string ⟨#[]⟩), (.int .i32 0), (.int .i32 0)] [(0, 1, (.const (.int .i64 9))), (1, 1, (.const (.int .i64 2)))]⟩,
 ⟨some 55, none, .agg [(.int .i64 0), (.int .i64 0), (.int .i64 0), (.string ⟨#[]⟩), (.int .i32 0), (.int .i32 0)] [(0, 1, (.const (.int .i64 7)))]⟩,
 ⟨some 56, none, .agg [(.int .i64 0), (.int .i64 0), (.int .i64 0), (.string ⟨#[]⟩), (.int .i32 0), (.int .i32 0)] [(0, 1, (.const (.int .i64 7))), (2, 1, (.const (.int .i64 2)))]⟩,
 ⟨some 57, none, .lits [(.int .i64 0), (.int .i64 0), (.int .i64 0), (.string ⟨#[]⟩), (.int .i32 0), (.int .i32 0), (.int .i64 0), (.int .i64 0), (.int .i64 0), (.string ⟨#[]⟩), (.int .i32 0), (.int .i32 0), (.int .i64 0), (.int .i64 0), (.int .i64 0), (.string ⟨#[]⟩), (.int .i32 0), (.int .i32 0), (.int .i64 0), (.int .i64 0), (.int .i64 0), (.string ⟨#[]⟩), (.int .i32 0), (.int .i32 0)] 4 [(0, 6, (.tmp 53)), (6, 6, (.tmp 54)), (12, 6, (.tmp 55)), (18, 6, (.tmp 56))]⟩,
 ⟨some 58, none, .call (.func 5) [(.tmp 57), (.const (.bool false))]⟩,
 ⟨some 52, none, .mov (.tmp 58)⟩,
 ⟨some 59, none, .ext (.tmp 52) 0⟩,
 ⟨some 60, none, .ext (.tmp 52) 1⟩,
 ⟨some 11, none, .mov (.tmp 59)⟩,
 ⟨some 12, none, .mov (.tmp 60)⟩])
 (.seq (.ops [⟨some 61, none, .agg [(.int .i64 0), (.int .i64 0), (.int .i64 0), (.string ⟨#[]⟩), (.int .i32 0), (.int .i32 0)] [(0, 1, (.const (.int .i64 11))), (1, 1, (.const (.int .i64 3))), (2, 1, (.const (.int .i64 1)))]⟩,
 ⟨some 62, none, .agg [(.int .i64 0), (.int .i64 0), (.int .i64 0), (.string ⟨#[]⟩), (.int .i32 0), (.int .i32 0)] [(0, 1, (.const (.int .i64 12)))]⟩,
 ⟨some 63, none, .agg [(.int .i64 0), (.int .i64 0), (.int .i64 0), (.string ⟨#[]⟩), (.int .i32 0), (.int .i32 0)] [(0, 1, (.const (.int .i64 8))), (1, 1, (.const (.int .i64 2))), (2, 1, (.const (.int .i64 1)))]⟩,
 ⟨some 64, none, .agg [(.int .i64 0), (.int .i64 0), (.int .i64 0), (.string ⟨#[]⟩), (.int .i32 0), (.int .i32 0)] [(0, 1, (.const (.int .i64 12))), (2, 1, (.const (.int .i64 1)))]⟩,
 ⟨some 65, none, .agg [(.int .i64 0), (.int .i64 0), (.int .i64 0), (.string ⟨#[]⟩), (.int .i32 0), (.int .i32 0)] [(0, 1, (.const (.int .i64 9))), (1, 1, (.const (.int .i64 2)))]⟩,
 ⟨some 66, none, .agg [(.int .i64 0), (.int .i64 0), (.int .i64 0), (.string ⟨#[]⟩), (.int .i32 0), (.int .i32 0)] [(0, 1, (.const (.int .i64 7)))]⟩,
 ⟨some 67, none, .agg [(.int .i64 0), (.int .i64 0), (.int .i64 0), (.string ⟨#[]⟩), (.int .i32 0), (.int .i32 0)] [(0, 1, (.const (.int .i64 7))), (2, 1, (.const (.int .i64 1)))]⟩,
 ⟨some 68, none, .agg [(.int .i64 0), (.int .i64 0), (.int .i64 0), (.string ⟨#[]⟩), (.int .i32 0), (.int .i32 0)] [(0, 1, (.const (.int .i64 7)))]⟩,
 ⟨some 69, none, .lits [(.int .i64 0), (.int .i64 0), (.int .i64 0), (.string ⟨#[]⟩), (.int .i32 0), (.int .i32 0), (.int .i64 0), (.int .i64 0), (.int .i64 0), (.string ⟨#[]⟩), (.int .i32 0), (.int .i32 0), (.int .i64 0), (.int .i64 0), (.int .i64 0), (.string ⟨#[]⟩), (.int .i32 0), (.int .i32 0), (.int .i64 0), (.int .i64 0), (.int .i64 0), (.string ⟨#[]⟩), (.int .i32 0), (.int .i32 0), (.int .i64 0), (.int .i64 0), (.int .i64 0), (.string ⟨#[]⟩), (.int .i32 0), (.int .i32 0), (.int .i64 0), (.int .i64 0), (.int .i64 0), (.string ⟨#[]⟩), (.int .i32 0), (.int .i32 0), (.int .i64 0), (.int .i64 0), (.int .i64 0), (.string ⟨#[]⟩), (.int .i32 0), (.int .i32 0), (.int .i64 0), (.int .i64 0), (.int .i64 0), (.string ⟨#[]⟩), (.int .i32 0), (.int .i32 0)] 8 [(0, 6, (.tmp 61)), (6, 6, (.tmp 62)), (12, 6, (.tmp 63)), (18, 6, (.tmp 64)), (24, 6, (.tmp 65)), (30, 6, (.tmp 66)), (36, 6, (.tmp 67)), (42, 6, (.tmp 68))]⟩,
 ⟨some 13, none, .mov (.tmp 69)⟩])
 (.seq (.ops [⟨some 71, none, .mov (.tmp 13)⟩,
 ⟨some 72, none, .call (.func 6) [(.tmp 71)]⟩,
 ⟨some 70, none, .mov (.tmp 72)⟩,
 ⟨some 73, none, .ext (.tmp 70) 0⟩,
 ⟨some 74, none, .ext (.tmp 70) 1⟩,
 ⟨some 14, none, .mov (.tmp 73)⟩,
 ⟨some 15, none, .mov (.tmp 74)⟩])
 (.seq (.ops [⟨some 76, none, .mov (.tmp 13)⟩,
 ⟨some 77, none, .call (.func 4) [(.tmp 76), (.const (.slice none 0 0))]⟩,
 ⟨some 75, none, .mov (.tmp 77)⟩,
 ⟨some 78, none, .ext (.tmp 75) 0⟩,
 ⟨some 79, none, .ext (.tmp 75) 1⟩,
 ⟨some 80, none, .ext (.tmp 75) 2⟩,
 ⟨some 16, none, .mov (.tmp 78)⟩,
 ⟨some 17, none, .mov (.tmp 79)⟩,
 ⟨some 18, none, .mov (.tmp 80)⟩])
 (.seq (.ops [⟨some 82, none, .mov (.tmp 16)⟩,
 ⟨some 83, none, .call (.func 6) [(.tmp 82)]⟩,
 ⟨some 81, none, .mov (.tmp 83)⟩,
 ⟨some 84, none, .ext (.tmp 81) 0⟩,
 ⟨some 85, none, .ext (.tmp 81) 1⟩,
 ⟨some 19, none, .mov (.tmp 84)⟩,
 ⟨some 20, none, .mov (.tmp 85)⟩])
 (.seq (.ops [⟨some 87, none, .mov (.tmp 2)⟩,
 ⟨some 88, none, .call (.func 6) [(.tmp 87)]⟩,
 ⟨some 86, none, .mov (.tmp 88)⟩,
 ⟨some 89, none, .ext (.tmp 86) 0⟩,
 ⟨some 90, none, .ext (.tmp 86) 1⟩,
 ⟨some 21, none, .mov (.tmp 89)⟩,
 ⟨some 22, none, .mov (.tmp 90)⟩])
 (.seq (.ops [⟨some 91, none, .mov (.tmp 4)⟩,
 ⟨some 92, none, .bin .eql (.tmp 91) (.const (.int .i64 0))⟩,
 ⟨some 93, none, .mov (.tmp 92)⟩,
 ⟨some 94, (some (93, true)), .mov (.tmp 7)⟩,
 ⟨some 95, (some (93, true)), .bin .eql (.tmp 94) (.const (.int .i64 10))⟩,
 ⟨some 96, none, .pick (.tmp 93) (.tmp 95) (.const (.bool false))⟩,
 ⟨some 97, none, .mov (.tmp 96)⟩,
 ⟨some 98, (some (97, true)), .mov (.tmp 10)⟩,
 ⟨some 99, (some (97, true)), .bin .eql (.tmp 98) (.const (.int .i64 0))⟩,
 ⟨some 100, none, .pick (.tmp 97) (.tmp 99) (.const (.bool false))⟩,
 ⟨some 101, none, .mov (.tmp 100)⟩,
 ⟨some 102, (some (101, true)), .mov (.tmp 12)⟩,
 ⟨some 103, (some (101, true)), .bin .eql (.tmp 102) (.const (.int .i64 0))⟩,
 ⟨some 104, none, .pick (.tmp 101) (.tmp 103) (.const (.bool false))⟩,
 ⟨some 105, none, .mov (.tmp 104)⟩,
 ⟨some 106, (some (105, true)), .mov (.tmp 15)⟩,
 ⟨some 107, (some (105, true)), .bin .eql (.tmp 106) (.const (.int .i64 0))⟩,
 ⟨some 108, none, .pick (.tmp 105) (.tmp 107) (.const (.bool false))⟩,
 ⟨some 109, none, .mov (.tmp 108)⟩,
 ⟨some 110, (some (109, true)), .mov (.tmp 18)⟩,
 ⟨some 111, (some (109, true)), .bin .eql (.tmp 110) (.const (.int .i64 0))⟩,
 ⟨some 112, none, .pick (.tmp 109) (.tmp 111) (.const (.bool false))⟩,
 ⟨some 113, none, .mov (.tmp 112)⟩,
 ⟨some 114, (some (113, true)), .mov (.tmp 20)⟩,
 ⟨some 115, (some (113, true)), .bin .eql (.tmp 114) (.const (.int .i64 0))⟩,
 ⟨some 116, none, .pick (.tmp 113) (.tmp 115) (.const (.bool false))⟩,
 ⟨some 117, none, .mov (.tmp 116)⟩,
 ⟨some 118, (some (117, true)), .mov (.tmp 22)⟩,
 ⟨some 119, (some (117, true)), .bin .eql (.tmp 118) (.const (.int .i64 0))⟩,
 ⟨some 120, none, .pick (.tmp 117) (.tmp 119) (.const (.bool false))⟩,
 ⟨some 121, none, .mov (.tmp 120)⟩,
 ⟨some 122, (some (121, true)), .mov (.tmp 6)⟩,
 ⟨some 123, (some (121, true)), .bin .eql (.tmp 122) (.const (.int .i64 2))⟩,
 ⟨some 124, none, .pick (.tmp 121) (.tmp 123) (.const (.bool false))⟩,
 ⟨some 125, none, .mov (.tmp 124)⟩,
 ⟨some 126, (some (125, true)), .mov (.tmp 21)⟩,
 ⟨some 127, (some (125, true)), .bin .eql (.tmp 126) (.const (.string ⟨#[40, 36, 48, 32, 36, 49, 41]⟩))⟩,
 ⟨some 128, none, .pick (.tmp 125) (.tmp 127) (.const (.bool false))⟩,
 ⟨some 129, none, .mov (.tmp 128)⟩,
 ⟨some 130, (some (129, true)), .mov (.tmp 9)⟩,
 ⟨some 131, (some (129, true)), .lits [(.int .i64 0)] 1 [(0, 1, (.const (.int .i64 4)))]⟩,
 ⟨some 132, (some (129, true)), .call (.func 7) [(.tmp 130), (.tmp 131)]⟩,
 ⟨some 133, none, .pick (.tmp 129) (.tmp 132) (.const (.bool false))⟩,
 ⟨some 134, none, .mov (.tmp 133)⟩,
 ⟨some 135, (some (134, true)), .mov (.tmp 11)⟩,
 ⟨some 136, (some (134, true)), .lits [(.int .i64 0)] 1 [(0, 1, (.const (.int .i64 1)))]⟩,
 ⟨some 137, (some (134, true)), .call (.func 7) [(.tmp 135), (.tmp 136)]⟩,
 ⟨some 138, none, .pick (.tmp 134) (.tmp 137) (.const (.bool false))⟩,
 ⟨some 139, none, .mov (.tmp 138)⟩,
 ⟨some 140, (some (139, true)), .mov (.tmp 14)⟩,
 ⟨some 141, (some (139, true)), .bin .eql (.tmp 140) (.const (.string ⟨#[40, 114, 101, 99, 32, 40, 40, 118, 48, 32, 40, 108, 97, 109, 98, 100, 97, 32, 40, 118, 49, 41, 32, 40, 118, 48, 32, 118, 49, 41, 41, 41, 41, 32, 118, 48, 41]⟩))⟩,
 ⟨some 142, none, .pick (.tmp 139) (.tmp 141) (.const (.bool false))⟩,
 ⟨some 143, none, .mov (.tmp 142)⟩,
 ⟨some 144, (some (143, true)), .mov (.tmp 19)⟩,
 ⟨some 145, (some (143, true)), .bin .eql (.tmp 144) (.const (.string ⟨#[40, 114, 101, 99, 32, 40, 40, 108, 97, 109, 98, 100, 97, 32, 49, 32, 40, 36, 49, 32, 36, 48, 41, 41, 41, 32, 36, 48, 41]⟩))⟩,
 ⟨some 146, none, .pick (.tmp 143) (.tmp 145) (.const (.bool false))⟩,
 ⟨some 147, none, .mov (.tmp 146)⟩,
 ⟨some 148, (some (147, true)), .call (.func 8) []⟩,
 ⟨some 149, none, .pick (.tmp 147) (.tmp 148) (.const (.bool false))⟩,
 ⟨some 0, none, .mov (.tmp 149)⟩])
 .ret)))))))))))))⟩
theorem ok3 : compF Tryz.prog Tryz.f3 = some c3 := by kernel_rfl
def c4 : CF := ⟨66, [.tmp 4, .cell1 5, .tmp 6],
 (.seq (.ops [⟨some 4, none, .mov (.const (.slice none 0 0))⟩,
 ⟨some 5, none, .newz [(.int .i64 0)]⟩,
 ⟨some 6, none, .mov (.const (.int .i64 0))⟩])
 (.seq (.seq (.ops [⟨some 16, none, .mov (.tmp 0)⟩,
 ⟨some 17, none, .call (.func 9) [(.tmp 16), (.const (.bool true))]⟩,
 ⟨some 15, none, .mov (.tmp 17)⟩,
 ⟨some 18, none, .ext (.tmp 15) 0⟩,
 ⟨some 19, none, .ext (.tmp 15) 1⟩,
 ⟨some 7, none, .mov (.tmp 18)⟩,
 ⟨some 8, none, .mov (.tmp 19)⟩])
 (.seq (.ops [⟨some 20, none, .mov (.tmp 8)⟩,
 ⟨some 21, none, .bin .neq (.tmp 20) (.const (.int .i64 0))⟩])
 (.cond (.tmp 21)
 (.seq (.ops [⟨some 22, none, .mov (.tmp 7)⟩,
 ⟨some 23, none, .mov (.tmp 8)⟩,
 ⟨some 4, none, .mov (.const (.slice none 0 0))⟩,
 ⟨none, none, .st 1 (.tmp 5) (.tmp 22)⟩,
 ⟨some 6, none, .mov (.tmp 23)⟩])
 .ret)
 .skip)))
 (.seq (.ops [⟨some 25, none, .mov (.tmp 1)⟩,
 ⟨some 26, none, .call (.func 10) [(.tmp 25)]⟩,
 ⟨some 24, none, .mov (.tmp 26)⟩,
 ⟨some 27, none, .ext (.tmp 24) 0⟩,
 ⟨some 28, none, .ext (.tmp 24) 1⟩,
 ⟨some 9, none, .mov (.tmp 27)⟩,
 ⟨some 6, none, .mov (.tmp 28)⟩])
 (.seq (.seq (.ops [⟨some 29, none, .mov (.tmp 6)⟩,
 ⟨some 30, none, .bin .neq (.tmp 29) (.const (.int .i64 0))⟩])
 (.cond (.tmp 30)
 (.seq (.ops [⟨some 31, none, .mov (.tmp 6)⟩,
 ⟨some 4, none, .mov (.const (.slice none 0 0))⟩,
 ⟨none, none, .st 1 (.tmp 5) (.const (.int .i64 0))⟩,
 ⟨some 6, none, .mov (.tmp 31)⟩])
 .ret)
 .skip))
 (.seq (.ops [⟨some 32, none, .mov (.tmp 0)⟩,
 ⟨some 33, none, .call (.func 11) [(.tmp 32)]⟩,
 ⟨some 10, none, .newz [(.slice none 0 0)]⟩,
 ⟨none, none, .st 1 (.tmp 10) (.tmp 33)⟩])
 (.seq (.ops [⟨none, none, .st 1 (.tmp 5) (.const (.int .i64 (-1)))⟩])
 (.seq (.ops [⟨some 34, none, .mov (.tmp 0)⟩,
 ⟨some 35, none, .mov (.tmp 9)⟩,
 ⟨some 36, none, .fn 13 [] [(.tmp 5), (.tmp 10)]⟩,
 ⟨some 37, none, .call (.func 12) [(.tmp 34), (.const (.bool true)), (.tmp 35), (.tmp 36)]⟩])
 (.seq (.seq (.ops [⟨some 38, none, .ld1 (.tmp 5)⟩,
 ⟨some 39, none, .bin .geq (.tmp 38) (.const (.int .i64 0))⟩])
 (.cond (.tmp 39)
 (.seq (.draw [⟨some 40, none, .ld1 (.tmp 5)⟩,
 ⟨some 4, none, .mov (.const (.slice none 0 0))⟩,
 ⟨none, none, .st 1 (.tmp 5) (.tmp 40)⟩,
 ⟨some 6, none, .mov (.const (.int .i64 10))⟩] [(0, 1)])
 .ret)
 .skip))
 (.seq (.seq (.ops [⟨some 41, none, .ld1 (.tmp 10)⟩,
 ⟨some 42, none, .lnl (.tmp 41)⟩,
 ⟨some 43, none, .mov (.const (.int .i64 0))⟩])
 (.block 0 (.loop (.seq (.ops [⟨some 44, none, .bin .lss (.tmp 43) (.tmp 42)⟩])
 (.seq (.cond (.tmp 44)
 .skip
 (.exit 0))
 (.seq (.block 1 (.seq (.ops [⟨some 45, none, .iad 6 (.tmp 41) (.tmp 43)⟩,
 ⟨some 46, none, .ld 6 (.tmp 45)⟩,
 ⟨some 12, none, .newz [(.int .i64 0), (.int .i64 0), (.int .i64 0), (.string ⟨#[]⟩), (.int .i32 0), (.int .i32 0)]⟩,
 ⟨none, none, .st 6 (.tmp 12) (.tmp 46)⟩])
 (.seq (.ops [⟨some 48, none, .ld 6 (.tmp 12)⟩,
 ⟨some 49, none, .call (.func 14) [(.tmp 48), (.const (.bool true))]⟩,
 ⟨some 47, none, .mov (.tmp 49)⟩,
 ⟨some 50, none, .ext (.tmp 47) 0⟩,
 ⟨some 51, none, .ext (.tmp 47) 1⟩,
 ⟨some 13, none, .mov (.tmp 50)⟩,
 ⟨some 14, none, .mov (.tmp 51)⟩])
 (.seq (.ops [⟨some 52, none, .fad (.tmp 12) 1⟩,
 ⟨some 53, none, .ld1 (.tmp 52)⟩,
 ⟨some 54, none, .mov (.tmp 13)⟩,
 ⟨some 55, none, .bin .sub (.tmp 53) (.tmp 54)⟩,
 ⟨some 56, none, .fad (.tmp 12) 1⟩,
 ⟨none, none, .st 1 (.tmp 56) (.tmp 55)⟩])
 (.seq (.ops [⟨some 57, none, .fad (.tmp 12) 0⟩,
 ⟨some 58, none, .ld1 (.tmp 57)⟩,
 ⟨some 59, none, .bin .neq (.tmp 58) (.const (.int .i64 12))⟩])
 (.cond (.tmp 59)
 (.ops [⟨some 60, none, .mov (.tmp 4)⟩,
 ⟨some 61, none, .ld 6 (.tmp 12)⟩,
 ⟨some 62, none, .lits [(.int .i64 0), (.int .i64 0), (.int .i64 0), (.string ⟨#[]⟩), (.int .i32 0), (.int .i32 0)] 1 [(0, 6, (.tmp 61))]⟩,
 ⟨some 63, none, .app 6 48 (.tmp 60) (.tmp 62)⟩,
 ⟨some 4, none, .mov (.tmp 63)⟩])
 .skip))))))
 (.ops [⟨some 64, none, .bin .add (.tmp 43) (.const (.int .i64 1))⟩,
 ⟨some 43, none, .mov (.tmp 64)⟩])))))))
 (.seq (.ops [⟨some 65, none, .mov (.tmp 4)⟩,
 ⟨some 4, none, .mov (.tmp 65)⟩,
 ⟨none, none, .st 1 (.tmp 5) (.const (.int .i64 0))⟩,
 ⟨some 6, none, .mov (.const (.int .i64 0))⟩])
 .ret))))))))))⟩
theorem ok4 : compF Tryz.prog Tryz.f4 = some c4 := by kernel_rfl
def c5 : CF := ⟨31, [.tmp 4, .tmp 5],
 (.seq (.ops [⟨some 2, none, .box (.tmp 0)⟩,
 ⟨some 3, none, .box (.tmp 1)⟩,
 ⟨some 4, none, .mov (.const (.slice none 0 0))⟩,
 ⟨some 5, none, .mov (.const (.int .i64 0))⟩])
 (.seq (.seq (.ops [⟨some 11, none, .ld1 (.tmp 2)⟩,
 ⟨some 12, none, .ld1 (.tmp 3)⟩,
 ⟨some 13, none, .call (.func 9) [(.tmp 11), (.tmp 12)]⟩,
 ⟨some 10, none, .mov (.tmp 13)⟩,
 ⟨some 14, none, .ext (.tmp 10) 0⟩,
 ⟨some 15, none, .ext (.tmp 10) 1⟩,
 ⟨some 6, none, .mov (.tmp 14)⟩,
 ⟨some 7, none, .mov (.tmp 15)⟩])
 (.seq (.ops [⟨some 16, none, .mov (.tmp 7)⟩,
 ⟨some 17, none, .bin .neq (.tmp 16) (.const (.int .i64 0))⟩])
 (.cond (.tmp 17)
 (.seq (.ops [⟨some 18, none, .mov (.tmp 7)⟩,
 ⟨some 4, none, .mov (.const (.slice none 0 0))⟩,
 ⟨some 5, none, .mov (.tmp 18)⟩])
 .ret)
 .skip)))
 (.seq (.ops [⟨some 8, none, .newz [(.slice none 0 0)]⟩])
 (.seq (.ops [⟨some 19, none, .mkm⟩,
 ⟨some 20, none, .agg [(.int .i64 0), (.map none)] [(1, 1, (.tmp 19))]⟩,
 ⟨some 21, none, .box (.tmp 20)⟩,
 ⟨some 9, none, .newz [(.pointer none)]⟩,
 ⟨none, none, .st 1 (.tmp 9) (.tmp 21)⟩])
 (.seq (.ops [⟨some 22, none, .ld1 (.tmp 2)⟩,
 ⟨some 23, none, .ld1 (.tmp 3)⟩,
 ⟨some 24, none, .ld1 (.tmp 9)⟩,
 ⟨some 25, none, .fn 15 [] [(.tmp 3), (.tmp 8), (.tmp 2), (.tmp 9)]⟩,
 ⟨some 26, none, .call (.func 12) [(.tmp 22), (.tmp 23), (.tmp 24), (.tmp 25)]⟩])
 (.seq (.ops [⟨some 27, none, .ld1 (.tmp 8)⟩,
 ⟨some 28, none, .call (.func 16) [(.tmp 27)]⟩])
 (.seq (.ops [⟨some 29, none, .ld1 (.tmp 8)⟩,
 ⟨some 30, none, .call (.func 17) [(.tmp 29)]⟩,
 ⟨some 4, none, .mov (.tmp 30)⟩,
 ⟨some 5, none, .mov (.const (.int .i64 0))⟩])
 .ret)))))))⟩
theorem ok5 : compF Tryz.prog Tryz.f5 = some c5 := by kernel_rfl
def c6 : CF := ⟨23, [.tmp 2, .tmp 3],
 (.seq (.ops [⟨some 1, none, .box (.tmp 0)⟩,
 ⟨some 2, none, .mov (.const (.string ⟨#[]⟩))⟩,
 ⟨some 3, none, .mov (.const (.int .i64 0))⟩])
 (.seq (.ops [⟨some 10, none, .ld1 (.tmp 1)⟩,
 ⟨some 11, none, .call (.func 18) [(.tmp 10)]⟩,
 ⟨some 9, none, .mov (.tmp 11)⟩,
 ⟨some 12, none, .ext (.tmp 9) 0⟩,
 ⟨some 13, none, .ext (.tmp 9) 1⟩,
 ⟨some 4, none, .newz [(.bool false)]⟩,
 ⟨none, none, .st 1 (.tmp 4) (.tmp 12)⟩,
 ⟨some 5, none, .mov (.tmp 13)⟩])
 (.seq (.seq (.ops [⟨some 14, none, .mov (.tmp 5)⟩,
 ⟨some 15, none, .bin .neq (.tmp 14) (.const (.int .i64 0))⟩])
 (.cond (.tmp 15)
 (.seq (.ops [⟨some 16, none, .mov (.tmp 5)⟩,
 ⟨some 2, none, .mov (.const (.string ⟨#[]⟩))⟩,
 ⟨some 3, none, .mov (.tmp 16)⟩])
 .ret)
 .skip))
 (.seq (.ops [⟨some 17, none, .ld1 (.tmp 1)⟩,
 ⟨some 18, none, .call (.func 19) [(.tmp 17)]⟩,
 ⟨some 6, none, .newz [(.slice none 0 0)]⟩,
 ⟨none, none, .st 1 (.tmp 6) (.tmp 18)⟩])
 (.seq (.ops [⟨some 7, none, .newz [.nilFunc]⟩])
 (.seq (.ops [⟨some 19, none, .fn 20 [] [(.tmp 7)]⟩,
 ⟨some 8, none, .newz [.nilFunc]⟩,
 ⟨none, none, .st 1 (.tmp 8) (.tmp 19)⟩])
 (.seq (.ops [⟨some 20, none, .fn 22 [] [(.tmp 1), (.tmp 6), (.tmp 8), (.tmp 4), (.tmp 7)]⟩,
 ⟨none, none, .st 1 (.tmp 7) (.tmp 20)⟩])
 (.seq (.ops [⟨some 21, none, .ld1 (.tmp 7)⟩,
 ⟨some 22, none, .call (.tmp 21) [(.const (.int .i64 0))]⟩,
 ⟨some 2, none, .mov (.tmp 22)⟩,
 ⟨some 3, none, .mov (.const (.int .i64 0))⟩])
 .ret))))))))⟩
theorem ok6 : compF Tryz.prog Tryz.f6 = some c6 := by kernel_rfl
def c7 : CF := ⟨26, [.tmp 4],
 (.seq (.ops [⟨some 4, none, .mov (.const (.bool false))⟩])
 (.seq (.seq (.ops [⟨some 6, none, .mov (.tmp 0)⟩,
 ⟨some 7, none, .lnl (.tmp 6)⟩,
 ⟨some 8, none, .mov (.tmp 1)⟩,
 ⟨some 9, none, .lnl (.tmp 8)⟩,
 ⟨some 10, none, .bin .neq (.tmp 7) (.tmp 9)⟩])
 (.cond (.tmp 10)
 (.seq (.ops [⟨some 4, none, .mov (.const (.bool false))⟩])
 .ret)
 .skip))
 (.seq (.seq (.ops [⟨some 5, none, .mov (.const (.int .i64 0))⟩])
 (.block 0 (.loop (.seq (.seq (.ops [⟨some 11, none, .mov (.tmp 5)⟩,
 ⟨some 12, none, .mov (.tmp 0)⟩,
 ⟨some 13, none, .lnl (.tmp 12)⟩,
 ⟨some 14, none, .bin .lss (.tmp 11) (.tmp 13)⟩])
 (.cond (.tmp 14)
 .skip
 (.exit 0)))
 (.seq (.block 1 (.seq (.draw [⟨some 17, none, .mov (.tmp 0)⟩,
 ⟨some 18, none, .mov (.tmp 5)⟩,
 ⟨some 19, none, .iad 1 (.tmp 17) (.tmp 18)⟩,
 ⟨some 20, none, .ld1 (.tmp 19)⟩,
 ⟨some 21, none, .mov (.tmp 1)⟩,
 ⟨some 22, none, .mov (.tmp 5)⟩,
 ⟨some 23, none, .iad 1 (.tmp 21) (.tmp 22)⟩,
 ⟨some 24, none, .ld1 (.tmp 23)⟩,
 ⟨some 25, none, .bin .neq (.tmp 20) (.tmp 24)⟩] [(0, 1), (0, 4), (1, 4), (2, 4), (3, 4), (0, 5), (1, 5), (2, 5), (3, 5), (4, 5), (0, 6), (1, 6), (2, 6), (3, 6), (0, 7), (1, 7), (2, 7), (3, 7)])
 (.cond (.tmp 25)
 (.seq (.ops [⟨some 4, none, .mov (.const (.bool false))⟩])
 .ret)
 .skip)))
 (.ops [⟨some 15, none, .mov (.tmp 5)⟩,
 ⟨some 16, none, .bin .add (.tmp 15) (.const (.int .i64 1))⟩,
 ⟨some 5, none, .mov (.tmp 16)⟩]))))))
 (.seq (.ops [⟨some 4, none, .mov (.const (.bool true))⟩])
 .ret))))⟩
theorem ok7 : compF Tryz.prog Tryz.f7 = some c7 := by kernel_rfl
def c8 : CF := ⟨91, [.tmp 0],
 (.seq (.ops [⟨some 0, none, .mov (.const (.bool false))⟩])
 (.seq (.ops [⟨some 16, none, .call (.func 25) []⟩,
 ⟨some 17, none, .call (.func 6) [(.tmp 16)]⟩,
 ⟨some 15, none, .mov (.tmp 17)⟩,
 ⟨some 18, none, .ext (.tmp 15) 0⟩,
 ⟨some 19, none, .ext (.tmp 15) 1⟩,
 ⟨some 1, none, .mov (.tmp 18)⟩,
 ⟨some 2, none, .mov (.tmp 19)⟩])
 (.seq (.ops [⟨some 21, none, .call (.func 25) []⟩,
 ⟨some 22, none, .call (.func 4) [(.tmp 21), (.const (.slice none 0 0))]⟩,
 ⟨some 20, none, .mov (.tmp 22)⟩,
 ⟨some 23, none, .ext (.tmp 20) 0⟩,
 ⟨some 24, none, .ext (.tmp 20) 1⟩,
 ⟨some 25, none, .ext (.tmp 20) 2⟩,
 ⟨some 3, none, .mov (.tmp 23)⟩,
 ⟨some 4, none, .mov (.tmp 24)⟩,
 ⟨some 5, none, .mov (.tmp 25)⟩])
 (.seq (.ops [⟨some 27, none, .mov (.tmp 3)⟩,
 ⟨some 28, none, .call (.func 6) [(.tmp 27)]⟩,
 ⟨some 26, none, .mov (.tmp 28)⟩,
 ⟨some 29, none, .ext (.tmp 26) 0⟩,
 ⟨some 30, none, .ext (.tmp 26) 1⟩,
 ⟨some 6, none, .mov (.tmp 29)⟩,
 ⟨some 7, none, .mov (.tmp 30)⟩])
 (.seq (.ops [⟨some 32, none, .mov (.tmp 3)⟩,
 ⟨some 33, none, .call (.func 26) [(.tmp 32), (.const (.slice none 0 0)), (.const (.int .i64 0))]⟩,
 ⟨some 31, none, .mov (.tmp 33)⟩,
 ⟨some 34, none, .ext (.tmp 31) 0⟩,
 ⟨some 35, none, .ext (.tmp 31) 1⟩,
 ⟨some 36, none, .ext (.tmp 31) 2⟩,
 ⟨some 8, none, .mov (.tmp 34)⟩,
 ⟨some 9, none, .mov (.tmp 35)⟩,
 ⟨some 10, none, .mov (.tmp 36)⟩])
 (.seq (.ops [⟨some 38, none, .mov (.tmp 8)⟩,
 ⟨some 39, none, .call (.func 6) [(.tmp 38)]⟩,
 ⟨some 37, none, .mov (.tmp 39)⟩,
 ⟨some 40, none, .ext (.tmp 37) 0⟩,
 ⟨some 41, none, .ext (.tmp 37) 1⟩,
 ⟨some 11, none, .mov (.tmp 40)⟩,
 ⟨some 12, none, .mov (.tmp 41)⟩])
 (.seq (.ops [⟨some 43, none, .agg [(.int .i64 0), (.int .i64 0), (.int .i64 0), (.string ⟨#[]⟩), (.int .i32 0), (.int .i32 0)] [(0, 1, (.const (.int .i64 5))), (1, 1, (.const (.int .i64 2)))]⟩,
 ⟨some 44, none, .agg [(.int .i64 0), (.int .i64 0), (.int .i64 0), (.string ⟨#[]⟩), (.int .i32 0), (.int .i32 0)] [(0, 1, (.const (.int .i64 1))), (2, 1, (.const (.int .i64 1)))]⟩,
 ⟨some 45, none, .agg [(.int .i64 0), (.int .i64 0), (.int .i64 0), (.string ⟨#[]⟩), (.int .i32 0), (.int .i32 0)] [(0, 1, (.const (.int .i64 10))), (1, 1, (.const (.int .i64 3)))]⟩,
 ⟨some 46, none, .agg [(.int .i64 0), (.int .i64 0), (.int .i64 0), (.string ⟨#[]⟩), (.int .i32 0), (.int .i32 0)] [(0, 1, (.const (.int .i64 1)))]⟩,
 ⟨some 47, none, .agg [(.int .i64 0), (.int .i64 0), (.int .i64 0), (.string ⟨#[]⟩), (.int .i32 0), (.int .i32 0)] [(0, 1, (.const (.int .i64 1)))]⟩,
 ⟨some 48, none, .agg [(.int .i64 0), (.int .i64 0), (.int .i64 0), (.string ⟨#[]⟩), (.int .i32 0), (.int .i32 0)] [(0, 1, (.const (.int .i64 1)))]⟩,
 ⟨some 49, none, .lits [(.int .i64 0), (.int .i64 0), (.int .i64 0), (.string ⟨#[]⟩), (.int .i32 0), (.int .i32 0), (.int .i64 0), (.int .i64 0), (.int .i64 0), (.string ⟨#[]⟩), (.int .i32 0), (.int .i32 0), (.int .i64 0), (.int .i64 0), (.int .i64 0), (.string ⟨#[]⟩), (.int .i32 0), (.int .i32 0), (.int .i64 0), (.int .i64 0), (.int .i64 0), (.string ⟨#[]⟩), (.int .i32 0), (.int .i32 0), (.int .i64 0), (.int .i64 0), (.int .i64 0), (.string ⟨#[]⟩), (.int .i32 0), (.int .i32 0), (.int .i64 0), (.int .i64 0), (.int .i64 0), (.string ⟨#[]⟩), (.int .i32 0), (.int .i32 0)] 6 [(0, 6, (.tmp 43)), (6, 6, (.tmp 44)), (12, 6, (.tmp 45)), (18, 6, (.tmp 46)), (24, 6, (.tmp 47)), (30, 6, (.tmp 48))]⟩,
 ⟨some 50, none, .call (.func 9) [(.tmp 49), (.const (.bool true))]⟩,
 ⟨some 42, none, .mov (.tmp 50)⟩,
 ⟨some 51, none, .ext (.tmp 42) 0⟩,
 ⟨some 52, none, .ext (.tmp 42) 1⟩,
 ⟨some 13, none, .mov (.tmp 51)⟩,
 ⟨some 14, none, .mov (.tmp 52)⟩])
 (.seq (.ops [⟨some 53, none, .mov (.tmp 2)⟩,
 ⟨some 54, none, .bin .eql (.tmp 53) (.const (.int .i64 0))⟩,
 ⟨some 55, none, .mov (.tmp 54)⟩,
 ⟨some 56, (some (55, true)), .mov (.tmp 5)⟩,
 ⟨some 57, (some (55, true)), .bin .eql (.tmp 56) (.const (.int .i64 0))⟩,
 ⟨some 58, none, .pick (.tmp 55) (.tmp 57) (.const (.bool false))⟩,
 ⟨some 59, none, .mov (.tmp 58)⟩,
 ⟨some 60, (some (59, true)), .mov (.tmp 7)⟩,
 ⟨some 61, (some (59, true)), .bin .eql (.tmp 60) (.const (.int .i64 0))⟩,
 ⟨some 62, none, .pick (.tmp 59) (.tmp 61) (.const (.bool false))⟩,
 ⟨some 63, none, .mov (.tmp 62)⟩,
 ⟨some 64, (some (63, true)), .mov (.tmp 10)⟩,
 ⟨some 65, (some (63, true)), .bin .eql (.tmp 64) (.const (.int .i64 0))⟩,
 ⟨some 66, none, .pick (.tmp 63) (.tmp 65) (.const (.bool false))⟩,
 ⟨some 67, none, .mov (.tmp 66)⟩,
 ⟨some 68, (some (67, true)), .mov (.tmp 12)⟩,
 ⟨some 69, (some (67, true)), .bin .eql (.tmp 68) (.const (.int .i64 0))⟩,
 ⟨some 70, none, .pick (.tmp 67) (.tmp 69) (.const (.bool false))⟩,
 ⟨some 71, none, .mov (.tmp 70)⟩,
 ⟨some 72, (some (71, true)), .mov (.tmp 14)⟩,
 ⟨some 73, (some (71, true)), .bin .eql (.tmp 72) (.const (.int .i64 6))⟩,
 ⟨some 74, none, .pick (.tmp 71) (.tmp 73) (.const (.bool false))⟩,
 ⟨some 75, none, .mov (.tmp 74)⟩,
 ⟨some 76, (some (75, true)), .mov (.tmp 13)⟩,
 ⟨some 77, (some (75, true)), .bin .eql (.tmp 76) (.const (.int .i64 0))⟩,
 ⟨some 78, none, .pick (.tmp 75) (.tmp 77) (.const (.bool false))⟩,
 ⟨some 79, none, .mov (.tmp 78)⟩,
 ⟨some 80, (some (79, true)), .mov (.tmp 1)⟩,
 ⟨some 81, (some (79, true)), .bin .eql (.tmp 80) (.const (.string ⟨#[40, 108, 97, 109, 98, 100, 97, 32, 40, 118, 51, 41, 32, 40, 108, 97, 109, 98, 100, 97, 32, 40, 118, 53, 41, 32, 118, 51, 41, 41]⟩))⟩,
 ⟨some 82, none, .pick (.tmp 79) (.tmp 81) (.const (.bool false))⟩,
 ⟨some 83, none, .mov (.tmp 82)⟩,
 ⟨some 84, (some (83, true)), .mov (.tmp 6)⟩,
 ⟨some 85, (some (83, true)), .bin .eql (.tmp 84) (.const (.string ⟨#[40, 108, 97, 109, 98, 100, 97, 32, 49, 32, 40, 108, 97, 109, 98, 100, 97, 32, 49, 32, 36, 49, 41, 41]⟩))⟩,
 ⟨some 86, none, .pick (.tmp 83) (.tmp 85) (.const (.bool false))⟩,
 ⟨some 87, none, .mov (.tmp 86)⟩,
 ⟨some 88, (some (87, true)), .mov (.tmp 11)⟩,
 ⟨some 89, (some (87, true)), .bin .eql (.tmp 88) (.const (.string ⟨#[40, 108, 97, 109, 98, 100, 97, 32, 40, 118, 48, 41, 32, 40, 108, 97, 109, 98, 100, 97, 32, 40, 118, 49, 41, 32, 118, 48, 41, 41]⟩))⟩,
 ⟨some 90, none, .pick (.tmp 87) (.tmp 89) (.const (.bool false))⟩,
 ⟨some 0, none, .mov (.tmp 90)⟩])
 .ret))))))))⟩
theorem ok8 : compF Tryz.prog Tryz.f8 = some c8 := by kernel_rfl
def c9 : CF := ⟨128, [.tmp 4, .tmp 5],
 (.seq (.ops [⟨some 4, none, .mov (.const (.int .i64 0))⟩,
 ⟨some 5, none, .mov (.const (.int .i64 0))⟩])
 (.seq (.block 0 (.seq (.ops [⟨some 15, none, .mov (.tmp 0)⟩,
 ⟨some 16, none, .lnl (.tmp 15)⟩,
 ⟨some 17, none, .bin .eql (.tmp 16) (.const (.int .i64 0))⟩,
 ⟨some 14, none, .mov (.tmp 17)⟩])
 (.cond (.tmp 14)
 (.seq (.ops [⟨some 4, none, .mov (.const (.int .i64 0))⟩,
 ⟨some 5, none, .mov (.const (.int .i64 6))⟩])
 .ret)
 (.seq (.ops [⟨some 19, none, .mov (.tmp 0)⟩,
 ⟨some 20, none, .lnl (.tmp 19)⟩,
 ⟨some 21, none, .bin .gtr (.tmp 20) (.const (.int .i64 2000))⟩,
 ⟨some 18, none, .mov (.tmp 21)⟩])
 (.cond (.tmp 18)
 (.seq (.ops [⟨some 4, none, .mov (.const (.int .i64 0))⟩,
 ⟨some 5, none, .mov (.const (.int .i64 3))⟩])
 .ret)
 .skip)))))
 (.seq (.ops [⟨some 22, none, .lits [(.int .i64 0)] 1 [(0, 1, (.const (.int .i64 1)))]⟩,
 ⟨some 6, none, .mov (.tmp 22)⟩])
 (.seq (.seq (.ops [⟨some 23, none, .mov (.tmp 0)⟩,
 ⟨some 24, none, .lnl (.tmp 23)⟩,
 ⟨some 25, none, .mov (.const (.int .i64 0))⟩])
 (.block 1 (.loop (.seq (.ops [⟨some 26, none, .bin .lss (.tmp 25) (.tmp 24)⟩])
 (.seq (.cond (.tmp 26)
 .skip
 (.exit 1))
 (.seq (.block 2 (.seq (.ops [⟨some 27, none, .mov (.tmp 25)⟩,
 ⟨some 28, none, .iad 6 (.tmp 23) (.tmp 25)⟩,
 ⟨some 29, none, .ld 6 (.tmp 28)⟩,
 ⟨some 8, none, .newz [(.int .i64 0), (.int .i64 0), (.int .i64 0), (.string ⟨#[]⟩), (.int .i32 0), (.int .i32 0)]⟩,
 ⟨some 7, none, .mov (.tmp 27)⟩,
 ⟨none, none, .st 6 (.tmp 8) (.tmp 29)⟩])
 (.seq (.block 3 (.loop (.seq (.seq (.ops [⟨some 30, none, .mov (.tmp 6)⟩,
 ⟨some 31, none, .lnl (.tmp 30)⟩,
 ⟨some 32, none, .bin .gtr (.tmp 31) (.const (.int .i64 0))⟩,
 ⟨some 33, none, .mov (.tmp 32)⟩,
 ⟨some 34, (some (33, true)), .mov (.tmp 6)⟩,
 ⟨some 35, (some (33, true)), .mov (.tmp 6)⟩,
 ⟨some 36, (some (33, true)), .lnl (.tmp 35)⟩,
 ⟨some 37, (some (33, true)), .bin .sub (.tmp 36) (.const (.int .i64 1))⟩,
 ⟨some 38, (some (33, true)), .iad 1 (.tmp 34) (.tmp 37)⟩,
 ⟨some 39, (some (33, true)), .ld1 (.tmp 38)⟩,
 ⟨some 40, (some (33, true)), .bin .eql (.tmp 39) (.const (.int .i64 0))⟩,
 ⟨some 41, none, .pick (.tmp 33) (.tmp 40) (.const (.bool false))⟩])
 (.cond (.tmp 41)
 .skip
 (.exit 3)))
 (.block 4 (.ops [⟨some 42, none, .mov (.tmp 6)⟩,
 ⟨some 43, none, .mov (.tmp 6)⟩,
 ⟨some 44, none, .lnl (.tmp 43)⟩,
 ⟨some 45, none, .bin .sub (.tmp 44) (.const (.int .i64 1))⟩,
 ⟨some 46, none, .sl 1 (.tmp 42) none (some (.tmp 45)) none⟩,
 ⟨some 6, none, .mov (.tmp 46)⟩])))))
 (.seq (.block 5 (.seq (.ops [⟨some 48, none, .mov (.tmp 6)⟩,
 ⟨some 49, none, .lnl (.tmp 48)⟩,
 ⟨some 50, none, .bin .eql (.tmp 49) (.const (.int .i64 0))⟩,
 ⟨some 51, none, .mov (.tmp 50)⟩,
 ⟨some 52, (some (51, false)), .fad (.tmp 8) 0⟩,
 ⟨some 53, (some (51, false)), .ld1 (.tmp 52)⟩,
 ⟨some 54, (some (51, false)), .bin .lss (.tmp 53) (.const (.int .i64 1))⟩,
 ⟨some 55, none, .pick (.tmp 51) (.const (.bool true)) (.tmp 54)⟩,
 ⟨some 56, none, .mov (.tmp 55)⟩,
 ⟨some 57, (some (56, false)), .fad (.tmp 8) 0⟩,
 ⟨some 58, (some (56, false)), .ld1 (.tmp 57)⟩,
 ⟨some 59, (some (56, false)), .bin .gtr (.tmp 58) (.const (.int .i64 12))⟩,
 ⟨some 60, none, .pick (.tmp 56) (.const (.bool true)) (.tmp 59)⟩,
 ⟨some 61, none, .mov (.tmp 60)⟩,
 ⟨some 62, (some (61, false)), .fad (.tmp 8) 1⟩,
 ⟨some 63, (some (61, false)), .ld1 (.tmp 62)⟩,
 ⟨some 64, (some (61, false)), .bin .lss (.tmp 63) (.const (.int .i64 0))⟩,
 ⟨some 65, none, .pick (.tmp 61) (.const (.bool true)) (.tmp 64)⟩,
 ⟨some 47, none, .mov (.tmp 65)⟩])
 (.cond (.tmp 47)
 (.seq (.ops [⟨some 66, none, .mov (.tmp 7)⟩,
 ⟨some 4, none, .mov (.tmp 66)⟩,
 ⟨some 5, none, .mov (.const (.int .i64 6))⟩])
 .ret)
 (.seq (.ops [⟨some 68, none, .mov (.tmp 6)⟩,
 ⟨some 69, none, .lnl (.tmp 68)⟩,
 ⟨some 70, none, .bin .gtr (.tmp 69) (.const (.int .i64 201))⟩,
 ⟨some 67, none, .mov (.tmp 70)⟩])
 (.cond (.tmp 67)
 (.seq (.ops [⟨some 71, none, .mov (.tmp 7)⟩,
 ⟨some 4, none, .mov (.tmp 71)⟩,
 ⟨some 5, none, .mov (.const (.int .i64 3))⟩])
 .ret)
 .skip)))))
 (.seq (.seq (.ops [⟨some 72, none, .ld 6 (.tmp 8)⟩,
 ⟨some 73, none, .call (.func 27) [(.tmp 72)]⟩,
 ⟨some 9, none, .mov (.tmp 73)⟩])
 (.seq (.ops [⟨some 74, none, .mov (.tmp 9)⟩,
 ⟨some 75, none, .bin .neq (.tmp 74) (.const (.int .i64 0))⟩])
 (.cond (.tmp 75)
 (.seq (.ops [⟨some 76, none, .mov (.tmp 7)⟩,
 ⟨some 77, none, .mov (.tmp 9)⟩,
 ⟨some 4, none, .mov (.tmp 76)⟩,
 ⟨some 5, none, .mov (.tmp 77)⟩])
 .ret)
 .skip)))
 (.seq (.seq (.ops [⟨some 78, none, .ld 6 (.tmp 8)⟩,
 ⟨some 79, none, .mov (.tmp 1)⟩,
 ⟨some 80, none, .call (.func 28) [(.tmp 78), (.tmp 79)]⟩,
 ⟨some 10, none, .mov (.tmp 80)⟩])
 (.seq (.ops [⟨some 81, none, .mov (.tmp 10)⟩,
 ⟨some 82, none, .bin .neq (.tmp 81) (.const (.int .i64 0))⟩])
 (.cond (.tmp 82)
 (.seq (.ops [⟨some 83, none, .mov (.tmp 7)⟩,
 ⟨some 84, none, .mov (.tmp 10)⟩,
 ⟨some 4, none, .mov (.tmp 83)⟩,
 ⟨some 5, none, .mov (.tmp 84)⟩])
 .ret)
 .skip)))
 (.seq (.ops [⟨some 85, none, .mov (.tmp 6)⟩,
 ⟨some 86, none, .mov (.tmp 6)⟩,
 ⟨some 87, none, .lnl (.tmp 86)⟩,
 ⟨some 88, none, .bin .sub (.tmp 87) (.const (.int .i64 1))⟩,
 ⟨some 89, none, .iad 1 (.tmp 85) (.tmp 88)⟩,
 ⟨some 90, none, .ld1 (.tmp 89)⟩,
 ⟨some 91, none, .bin .sub (.tmp 90) (.const (.int .i64 1))⟩,
 ⟨some 92, none, .iad 1 (.tmp 85) (.tmp 88)⟩,
 ⟨none, none, .st 1 (.tmp 92) (.tmp 91)⟩])
 (.ops [⟨some 93, none, .mov (.tmp 6)⟩,
 ⟨some 94, none, .fad (.tmp 8) 1⟩,
 ⟨some 95, none, .ld1 (.tmp 94)⟩,
 ⟨some 96, none, .lits [(.int .i64 0)] 1 [(0, 1, (.tmp 95))]⟩,
 ⟨some 97, none, .app 1 8 (.tmp 93) (.tmp 96)⟩,
 ⟨some 6, none, .mov (.tmp 97)⟩]))))))))
 (.ops [⟨some 98, none, .bin .add (.tmp 25) (.const (.int .i64 1))⟩,
 ⟨some 25, none, .mov (.tmp 98)⟩])))))))
 (.seq (.block 6 (.seq (.ops [⟨some 100, none, .mov (.tmp 6)⟩,
 ⟨some 101, none, .call (.func 29) [(.tmp 100)]⟩,
 ⟨some 102, none, .bin .gtr (.tmp 101) (.const (.int .i64 0))⟩,
 ⟨some 99, none, .mov (.tmp 102)⟩])
 (.cond (.tmp 99)
 (.seq (.ops [⟨some 103, none, .mov (.tmp 0)⟩,
 ⟨some 104, none, .lnl (.tmp 103)⟩,
 ⟨some 4, none, .mov (.tmp 104)⟩,
 ⟨some 5, none, .mov (.const (.int .i64 6))⟩])
 .ret)
 (.seq (.ops [⟨some 106, none, .mov (.tmp 0)⟩,
 ⟨some 107, none, .iad 6 (.tmp 106) (.const (.int .i64 0))⟩,
 ⟨some 108, none, .fad (.tmp 107) 0⟩,
 ⟨some 109, none, .ld1 (.tmp 108)⟩,
 ⟨some 110, none, .bin .eql (.tmp 109) (.const (.int .i64 12))⟩,
 ⟨some 105, none, .mov (.tmp 110)⟩])
 (.cond (.tmp 105)
 (.seq (.ops [⟨some 4, none, .mov (.const (.int .i64 0))⟩,
 ⟨some 5, none, .mov (.const (.int .i64 6))⟩])
 .ret)
 .skip)))))
 (.seq (.ops [⟨some 111, none, .mov (.tmp 0)⟩,
 ⟨some 112, none, .call (.func 19) [(.tmp 111)]⟩,
 ⟨some 11, none, .mov (.tmp 112)⟩])
 (.seq (.seq (.ops [⟨some 113, none, .mov (.tmp 0)⟩,
 ⟨some 114, none, .lnl (.tmp 113)⟩,
 ⟨some 115, none, .mov (.const (.int .i64 0))⟩])
 (.block 7 (.loop (.seq (.ops [⟨some 116, none, .bin .lss (.tmp 115) (.tmp 114)⟩])
 (.seq (.cond (.tmp 116)
 .skip
 (.exit 7))
 (.seq (.block 8 (.seq (.ops [⟨some 117, none, .mov (.tmp 115)⟩,
 ⟨some 12, none, .mov (.tmp 117)⟩])
 (.seq (.ops [⟨some 118, none, .mov (.tmp 0)⟩,
 ⟨some 119, none, .mov (.tmp 11)⟩,
 ⟨some 120, none, .mov (.tmp 12)⟩,
 ⟨some 121, none, .mov (.tmp 1)⟩,
 ⟨some 122, none, .call (.func 30) [(.tmp 118), (.tmp 119), (.tmp 120), (.tmp 121)]⟩,
 ⟨some 13, none, .mov (.tmp 122)⟩])
 (.seq (.ops [⟨some 123, none, .mov (.tmp 13)⟩,
 ⟨some 124, none, .bin .neq (.tmp 123) (.const (.int .i64 0))⟩])
 (.cond (.tmp 124)
 (.seq (.ops [⟨some 125, none, .mov (.tmp 12)⟩,
 ⟨some 126, none, .mov (.tmp 13)⟩,
 ⟨some 4, none, .mov (.tmp 125)⟩,
 ⟨some 5, none, .mov (.tmp 126)⟩])
 .ret)
 .skip)))))
 (.ops [⟨some 127, none, .bin .add (.tmp 115) (.const (.int .i64 1))⟩,
 ⟨some 115, none, .mov (.tmp 127)⟩])))))))
 (.seq (.ops [⟨some 4, none, .mov (.const (.int .i64 0))⟩,
 ⟨some 5, none, .mov (.const (.int .i64 0))⟩])
 .ret))))))))⟩
theorem ok9 : compF Tryz.prog Tryz.f9 = some c9 := by kernel_rfl
def c10 : CF := ⟨26, [.tmp 2, .tmp 3],
 (.seq (.ops [⟨some 2, none, .mov (.const (.pointer none))⟩,
 ⟨some 3, none, .mov (.const (.int .i64 0))⟩])
 (.seq (.ops [⟨some 7, none, .mkm⟩,
 ⟨some 8, none, .agg [(.int .i64 0), (.map none)] [(1, 1, (.tmp 7))]⟩,
 ⟨some 9, none, .box (.tmp 8)⟩,
 ⟨some 4, none, .mov (.tmp 9)⟩])
 (.seq (.seq (.ops [⟨some 10, none, .mov (.tmp 0)⟩,
 ⟨some 11, none, .lnl (.tmp 10)⟩,
 ⟨some 12, none, .mov (.const (.int .i64 0))⟩])
 (.block 0 (.loop (.seq (.ops [⟨some 13, none, .bin .lss (.tmp 12) (.tmp 11)⟩])
 (.seq (.cond (.tmp 13)
 .skip
 (.exit 0))
 (.seq (.block 1 (.seq (.ops [⟨some 14, none, .iad 1 (.tmp 10) (.tmp 12)⟩,
 ⟨some 15, none, .ld1 (.tmp 14)⟩,
 ⟨some 6, none, .mov (.tmp 15)⟩])
 (.seq (.seq (.ops [⟨some 16, none, .mov (.tmp 4)⟩,
 ⟨some 17, none, .mov (.tmp 6)⟩,
 ⟨some 18, none, .call (.func 31) [(.tmp 16), (.tmp 17)]⟩,
 ⟨some 19, none, .bin .geq (.tmp 18) (.const (.int .i64 0))⟩])
 (.cond (.tmp 19)
 (.seq (.ops [⟨some 20, none, .mov (.tmp 4)⟩,
 ⟨some 2, none, .mov (.tmp 20)⟩,
 ⟨some 3, none, .mov (.const (.int .i64 8))⟩])
 .ret)
 .skip))
 (.ops [⟨some 21, none, .mov (.tmp 4)⟩,
 ⟨some 22, none, .mov (.tmp 6)⟩,
 ⟨some 23, none, .call (.func 32) [(.tmp 21), (.tmp 22)]⟩]))))
 (.ops [⟨some 24, none, .bin .add (.tmp 12) (.const (.int .i64 1))⟩,
 ⟨some 12, none, .mov (.tmp 24)⟩])))))))
 (.seq (.ops [⟨some 25, none, .mov (.tmp 4)⟩,
 ⟨some 2, none, .mov (.tmp 25)⟩,
 ⟨some 3, none, .mov (.const (.int .i64 0))⟩])
 .ret))))⟩
theorem ok10 : compF Tryz.prog Tryz.f10 = some c10 := by kernel_rfl
def c11 : CF := ⟨8, [.tmp 2],
 (.seq (.ops [⟨some 2, none, .mov (.const (.slice none 0 0))⟩])
 (.seq (.seq (.ops [⟨some 3, none, .mov (.tmp 0)⟩,
 ⟨some 4, none, .eqn 1 false true (.tmp 3) (.const (.slice none 0 0))⟩])
 (.cond (.tmp 4)
 (.seq (.ops [⟨some 2, none, .mov (.const (.slice none 0 0))⟩])
 .ret)
 .skip))
 (.seq (.ops [⟨some 5, none, .lits [] 0 []⟩,
 ⟨some 6, none, .mov (.tmp 0)⟩,
 ⟨some 7, none, .app 6 48 (.tmp 5) (.tmp 6)⟩,
 ⟨some 2, none, .mov (.tmp 7)⟩])
 .ret)))⟩
theorem ok11 : compF Tryz.prog Tryz.f11 = some c11 := by kernel_rfl
def c12 : CF := ⟨15, [],
 (.seq (.ops [⟨some 4, none, .box (.tmp 0)⟩,
 ⟨some 5, none, .box (.tmp 1)⟩,
 ⟨some 6, none, .box (.tmp 2)⟩,
 ⟨some 7, none, .box (.tmp 3)⟩])
 (.seq (.ops [⟨some 10, none, .ld1 (.tmp 4)⟩,
 ⟨some 11, none, .call (.func 19) [(.tmp 10)]⟩,
 ⟨some 8, none, .newz [(.slice none 0 0)]⟩,
 ⟨none, none, .st 1 (.tmp 8) (.tmp 11)⟩])
 (.seq (.ops [⟨some 9, none, .newz [.nilFunc]⟩])
 (.seq (.ops [⟨some 12, none, .fn 33 [] [(.tmp 4), (.tmp 8), (.tmp 5), (.tmp 6), (.tmp 7), (.tmp 9)]⟩,
 ⟨none, none, .st 1 (.tmp 9) (.tmp 12)⟩])
 (.ops [⟨some 13, none, .ld1 (.tmp 9)⟩,
 ⟨some 14, none, .call (.tmp 13) [(.const (.int .i64 0))]⟩])))))⟩
theorem ok12 : compF Tryz.prog Tryz.f12 = some c12 := by kernel_rfl
def c13 : CF := ⟨18, [],
 (.seq (.seq (.ops [⟨some 6, none, .mov (.tmp 1)⟩,
 ⟨some 7, none, .bin .lss (.tmp 6) (.const (.int .i64 0))⟩,
 ⟨some 8, none, .mov (.tmp 7)⟩,
 ⟨some 9, (some (8, true)), .ld1 (.tmp 2)⟩,
 ⟨some 10, (some (8, true)), .bin .lss (.tmp 9) (.const (.int .i64 0))⟩,
 ⟨some 11, none, .pick (.tmp 8) (.tmp 10) (.const (.bool false))⟩])
 (.cond (.tmp 11)
 (.ops [⟨some 12, none, .mov (.tmp 0)⟩,
 ⟨none, none, .st 1 (.tmp 2) (.tmp 12)⟩])
 .skip))
 (.ops [⟨some 13, none, .ld1 (.tmp 3)⟩,
 ⟨some 14, none, .mov (.tmp 0)⟩,
 ⟨some 15, none, .mov (.tmp 1)⟩,
 ⟨some 16, none, .iad 6 (.tmp 13) (.tmp 14)⟩,
 ⟨some 17, none, .fad (.tmp 16) 2⟩,
 ⟨none, none, .st 1 (.tmp 17) (.tmp 15)⟩]))⟩
theorem ok13 : compF Tryz.prog Tryz.f13 = some c13 := by kernel_rfl
def c14 : CF := ⟨19, [.tmp 4, .tmp 5],
 (.seq (.ops [⟨some 2, none, .box (.tmp 0)⟩,
 ⟨some 4, none, .mov (.const (.int .i64 0))⟩,
 ⟨some 5, none, .mov (.const (.int .i64 0))⟩])
 (.seq (.seq (.ops [⟨some 6, none, .fad (.tmp 2) 0⟩,
 ⟨some 7, none, .ld1 (.tmp 6)⟩])
 (.block 0 (.seq (.block 2 (.seq (.block 1 (.seq (.seq (.seq (.ops [⟨some 9, none, .bin .eql (.tmp 7) (.const (.int .i64 11))⟩,
 ⟨some 8, none, .mov (.tmp 9)⟩])
 (.cond (.tmp 8)
 (.exit 1)
 .skip))
 (.seq (.ops [⟨some 11, none, .bin .eql (.tmp 7) (.const (.int .i64 8))⟩,
 ⟨some 10, none, .mov (.tmp 11)⟩])
 (.cond (.tmp 10)
 (.exit 2)
 .skip)))
 (.exit 0)))
 (.ops [⟨some 12, none, .fad (.tmp 2) 2⟩,
 ⟨some 13, none, .ld1 (.tmp 12)⟩,
 ⟨some 5, none, .mov (.tmp 13)⟩])))
 (.seq (.seq (.ops [⟨some 14, none, .mov (.tmp 1)⟩])
 (.cond (.tmp 14)
 (.ops [⟨some 15, none, .fad (.tmp 2) 2⟩,
 ⟨some 16, none, .ld1 (.tmp 15)⟩,
 ⟨some 4, none, .mov (.tmp 16)⟩])
 .skip))
 (.exit 0)))))
 (.seq (.ops [⟨some 17, none, .mov (.tmp 4)⟩,
 ⟨some 18, none, .mov (.tmp 5)⟩,
 ⟨some 4, none, .mov (.tmp 17)⟩,
 ⟨some 5, none, .mov (.tmp 18)⟩])
 .ret)))⟩
theorem ok14 : compF Tryz.prog Tryz.f14 = some c14 := by kernel_rfl
def c15 : CF := ⟨46, [],
 (.block 0 (.seq (.ops [⟨some 9, none, .ld1 (.tmp 2)⟩,
 ⟨some 10, none, .mov (.tmp 9)⟩,
 ⟨some 11, (some (10, true)), .mov (.tmp 1)⟩,
 ⟨some 12, (some (10, true)), .bin .lss (.tmp 11) (.const (.int .i64 0))⟩,
 ⟨some 13, none, .pick (.tmp 10) (.tmp 12) (.const (.bool false))⟩,
 ⟨some 8, none, .mov (.tmp 13)⟩])
 (.cond (.tmp 8)
 (.draw [⟨some 14, none, .ld1 (.tmp 3)⟩,
 ⟨some 15, none, .ld1 (.tmp 4)⟩,
 ⟨some 16, none, .mov (.tmp 0)⟩,
 ⟨some 17, none, .iad 6 (.tmp 15) (.tmp 16)⟩,
 ⟨some 18, none, .fad (.tmp 17) 2⟩,
 ⟨some 19, none, .ld1 (.tmp 18)⟩,
 ⟨some 20, none, .lits [(.int .i64 0)] 1 [(0, 1, (.tmp 19))]⟩,
 ⟨some 21, none, .app 1 8 (.tmp 14) (.tmp 20)⟩,
 ⟨none, none, .st 1 (.tmp 3) (.tmp 21)⟩] [(0, 1), (0, 2), (1, 2), (0, 3), (0, 4), (0, 5), (0, 6)])
 (.seq (.ops [⟨some 23, none, .ld1 (.tmp 2)⟩,
 ⟨some 24, none, .un .not (.tmp 23)⟩,
 ⟨some 25, none, .mov (.tmp 24)⟩,
 ⟨some 26, (some (25, true)), .mov (.tmp 1)⟩,
 ⟨some 27, (some (25, true)), .ld1 (.tmp 5)⟩,
 ⟨some 28, (some (25, true)), .nilck (.tmp 27)⟩,
 ⟨some 29, (some (25, true)), .fad (.tmp 28) 0⟩,
 ⟨some 30, (some (25, true)), .ld1 (.tmp 29)⟩,
 ⟨some 31, (some (25, true)), .bin .geq (.tmp 26) (.tmp 30)⟩,
 ⟨some 32, none, .pick (.tmp 25) (.tmp 31) (.const (.bool false))⟩,
 ⟨some 22, none, .mov (.tmp 32)⟩])
 (.cond (.tmp 22)
 (.draw [⟨some 33, none, .ld1 (.tmp 3)⟩,
 ⟨some 34, none, .ld1 (.tmp 4)⟩,
 ⟨some 35, none, .mov (.tmp 0)⟩,
 ⟨some 36, none, .iad 6 (.tmp 34) (.tmp 35)⟩,
 ⟨some 37, none, .fad (.tmp 36) 2⟩,
 ⟨some 38, none, .ld1 (.tmp 37)⟩,
 ⟨some 39, none, .ld1 (.tmp 5)⟩,
 ⟨some 40, none, .nilck (.tmp 39)⟩,
 ⟨some 41, none, .fad (.tmp 40) 0⟩,
 ⟨some 42, none, .ld1 (.tmp 41)⟩,
 ⟨some 43, none, .bin .sub (.tmp 38) (.tmp 42)⟩,
 ⟨some 44, none, .lits [(.int .i64 0)] 1 [(0, 1, (.tmp 43))]⟩,
 ⟨some 45, none, .app 1 8 (.tmp 33) (.tmp 44)⟩,
 ⟨none, none, .st 1 (.tmp 3) (.tmp 45)⟩] [(0, 1), (0, 2), (1, 2), (0, 3), (0, 4), (0, 5), (0, 6), (1, 6), (2, 6), (3, 6), (4, 6), (5, 6), (0, 7), (1, 7), (2, 7), (3, 7), (4, 7), (5, 7), (0, 8), (1, 8), (2, 8), (3, 8), (4, 8), (5, 8), (0, 9), (1, 9), (2, 9), (3, 9), (4, 9), (5, 9), (0, 10), (0, 11)])
 .skip)))))⟩
theorem ok15 : compF Tryz.prog Tryz.f15 = some c15 := by kernel_rfl
def c16 : CF := ⟨11, [],
 (.seq (.ops [⟨some 3, none, .mov (.tmp 0)⟩,
 ⟨some 4, none, .lnl (.tmp 3)⟩,
 ⟨some 2, none, .mov (.tmp 4)⟩])
 (.ops [⟨some 5, none, .mov (.tmp 0)⟩,
 ⟨some 6, none, .mov (.tmp 2)⟩,
 ⟨some 7, none, .mov (.tmp 2)⟩,
 ⟨some 8, none, .cvi .u64 (.tmp 7)⟩,
 ⟨some 9, none, .call (.func 37) [(.tmp 8)]⟩,
 ⟨some 10, none, .call (.func 36) [(.tmp 5), (.const (.int .i64 0)), (.tmp 6), (.tmp 9)]⟩]))⟩
theorem ok16 : compF Tryz.prog Tryz.f16 = some c16 := by kernel_rfl
def c17 : CF := ⟨61, [.tmp 2],
 (.seq (.ops [⟨some 2, none, .mov (.const (.slice none 0 0))⟩])
 (.seq (.seq (.ops [⟨some 6, none, .mov (.tmp 0)⟩,
 ⟨some 7, none, .lnl (.tmp 6)⟩,
 ⟨some 8, none, .bin .lss (.tmp 7) (.const (.int .i64 2))⟩])
 (.cond (.tmp 8)
 (.seq (.ops [⟨some 9, none, .mov (.tmp 0)⟩,
 ⟨some 2, none, .mov (.tmp 9)⟩])
 .ret)
 .skip))
 (.seq (.seq (.ops [⟨some 3, none, .mov (.const (.int .i64 1))⟩])
 (.block 0 (.loop (.seq (.seq (.ops [⟨some 10, none, .mov (.tmp 3)⟩,
 ⟨some 11, none, .mov (.tmp 0)⟩,
 ⟨some 12, none, .lnl (.tmp 11)⟩,
 ⟨some 13, none, .bin .lss (.tmp 10) (.tmp 12)⟩])
 (.cond (.tmp 13)
 .skip
 (.exit 0)))
 (.seq (.block 1 (.seq (.draw [⟨some 16, none, .mov (.tmp 0)⟩,
 ⟨some 17, none, .mov (.tmp 3)⟩,
 ⟨some 18, none, .iad 1 (.tmp 16) (.tmp 17)⟩,
 ⟨some 19, none, .ld1 (.tmp 18)⟩,
 ⟨some 20, none, .mov (.tmp 0)⟩,
 ⟨some 21, none, .mov (.tmp 3)⟩,
 ⟨some 22, none, .bin .sub (.tmp 21) (.const (.int .i64 1))⟩,
 ⟨some 23, none, .iad 1 (.tmp 20) (.tmp 22)⟩,
 ⟨some 24, none, .ld1 (.tmp 23)⟩,
 ⟨some 25, none, .bin .eql (.tmp 19) (.tmp 24)⟩] [(0, 1), (0, 4), (1, 4), (2, 4), (3, 4), (0, 5), (1, 5), (2, 5), (3, 5), (4, 5), (0, 6), (1, 6), (2, 6), (3, 6), (4, 6), (0, 7), (1, 7), (2, 7), (3, 7), (0, 8), (1, 8), (2, 8), (3, 8)])
 (.cond (.tmp 25)
 (.seq (.ops [⟨some 26, none, .mov (.tmp 0)⟩,
 ⟨some 27, none, .mov (.tmp 3)⟩,
 ⟨some 28, none, .sl 1 (.tmp 26) (some (.tmp 27)) none none⟩,
 ⟨some 4, none, .mov (.tmp 28)⟩])
 (.seq (.seq (.ops [⟨some 5, none, .mov (.const (.int .i64 1))⟩])
 (.block 2 (.loop (.seq (.seq (.ops [⟨some 29, none, .mov (.tmp 5)⟩,
 ⟨some 30, none, .mov (.tmp 4)⟩,
 ⟨some 31, none, .lnl (.tmp 30)⟩,
 ⟨some 32, none, .bin .lss (.tmp 29) (.tmp 31)⟩])
 (.cond (.tmp 32)
 .skip
 (.exit 2)))
 (.seq (.block 3 (.seq (.draw [⟨some 35, none, .mov (.tmp 4)⟩,
 ⟨some 36, none, .mov (.tmp 5)⟩,
 ⟨some 37, none, .iad 1 (.tmp 35) (.tmp 36)⟩,
 ⟨some 38, none, .ld1 (.tmp 37)⟩,
 ⟨some 39, none, .mov (.tmp 4)⟩,
 ⟨some 40, none, .mov (.tmp 5)⟩,
 ⟨some 41, none, .bin .sub (.tmp 40) (.const (.int .i64 1))⟩,
 ⟨some 42, none, .iad 1 (.tmp 39) (.tmp 41)⟩,
 ⟨some 43, none, .ld1 (.tmp 42)⟩,
 ⟨some 44, none, .bin .neq (.tmp 38) (.tmp 43)⟩] [(0, 1), (0, 4), (1, 4), (2, 4), (3, 4), (0, 5), (1, 5), (2, 5), (3, 5), (4, 5), (0, 6), (1, 6), (2, 6), (3, 6), (4, 6), (0, 7), (1, 7), (2, 7), (3, 7), (0, 8), (1, 8), (2, 8), (3, 8)])
 (.cond (.tmp 44)
 (.seq (.ops [⟨some 45, none, .mov (.tmp 0)⟩,
 ⟨some 46, none, .mov (.tmp 3)⟩,
 ⟨some 47, none, .mov (.tmp 4)⟩,
 ⟨some 48, none, .mov (.tmp 5)⟩,
 ⟨some 49, none, .iad 1 (.tmp 47) (.tmp 48)⟩,
 ⟨some 50, none, .ld1 (.tmp 49)⟩,
 ⟨some 51, none, .iad 1 (.tmp 45) (.tmp 46)⟩,
 ⟨none, none, .st 1 (.tmp 51) (.tmp 50)⟩])
 (.ops [⟨some 52, none, .mov (.tmp 3)⟩,
 ⟨some 53, none, .bin .add (.tmp 52) (.const (.int .i64 1))⟩,
 ⟨some 3, none, .mov (.tmp 53)⟩]))
 .skip)))
 (.ops [⟨some 33, none, .mov (.tmp 5)⟩,
 ⟨some 34, none, .bin .add (.tmp 33) (.const (.int .i64 1))⟩,
 ⟨some 5, none, .mov (.tmp 34)⟩]))))))
 (.seq (.ops [⟨some 54, none, .mov (.tmp 0)⟩,
 ⟨some 55, none, .mov (.tmp 3)⟩,
 ⟨some 56, none, .sl 1 (.tmp 54) (some (.tmp 55)) none none⟩,
 ⟨none, none, .bad⟩])
 (.seq (.ops [⟨some 57, none, .mov (.tmp 0)⟩,
 ⟨some 58, none, .mov (.tmp 3)⟩,
 ⟨some 59, none, .sl 1 (.tmp 57) none (some (.tmp 58)) none⟩,
 ⟨some 2, none, .mov (.tmp 59)⟩])
 .ret))))
 .skip)))
 (.ops [⟨some 14, none, .mov (.tmp 3)⟩,
 ⟨some 15, none, .bin .add (.tmp 14) (.const (.int .i64 1))⟩,
 ⟨some 3, none, .mov (.tmp 15)⟩]))))))
 (.seq (.ops [⟨some 60, none, .mov (.tmp 0)⟩,
 ⟨some 2, none, .mov (.tmp 60)⟩])
 .ret))))⟩
theorem ok17 : compF Tryz.prog Tryz.f17 = some c17 := by kernel_rfl
def c18 : CF := ⟨19, [.tmp 2, .tmp 3],
 (.seq (.ops [⟨some 2, none, .mov (.const (.bool false))⟩,
 ⟨some 3, none, .mov (.const (.int .i64 0))⟩])
 (.seq (.seq (.ops [⟨some 7, none, .mov (.tmp 0)⟩,
 ⟨some 8, none, .call (.func 9) [(.tmp 7), (.const (.bool false))]⟩,
 ⟨some 6, none, .mov (.tmp 8)⟩,
 ⟨some 9, none, .ext (.tmp 6) 0⟩,
 ⟨some 10, none, .ext (.tmp 6) 1⟩,
 ⟨some 4, none, .mov (.tmp 9)⟩,
 ⟨some 5, none, .mov (.tmp 10)⟩])
 (.seq (.ops [⟨some 11, none, .mov (.tmp 5)⟩,
 ⟨some 12, none, .bin .eql (.tmp 11) (.const (.int .i64 0))⟩])
 (.cond (.tmp 12)
 (.seq (.ops [⟨some 2, none, .mov (.const (.bool false))⟩,
 ⟨some 3, none, .mov (.const (.int .i64 0))⟩])
 .ret)
 .skip)))
 (.seq (.ops [⟨some 14, none, .mov (.tmp 0)⟩,
 ⟨some 15, none, .call (.func 9) [(.tmp 14), (.const (.bool true))]⟩,
 ⟨some 13, none, .mov (.tmp 15)⟩,
 ⟨some 16, none, .ext (.tmp 13) 0⟩,
 ⟨some 17, none, .ext (.tmp 13) 1⟩,
 ⟨some 3, none, .mov (.tmp 17)⟩])
 (.seq (.ops [⟨some 18, none, .mov (.tmp 3)⟩,
 ⟨some 2, none, .mov (.const (.bool true))⟩,
 ⟨some 3, none, .mov (.tmp 18)⟩])
 .ret))))⟩
theorem ok18 : compF Tryz.prog Tryz.f18 = some c18 := by kernel_rfl
def c19 : CF := ⟨12, [.tmp 2],
 (.seq (.ops [⟨some 1, none, .box (.tmp 0)⟩,
 ⟨some 2, none, .mov (.const (.slice none 0 0))⟩])
 (.seq (.ops [⟨some 5, none, .ld1 (.tmp 1)⟩,
 ⟨some 6, none, .lnl (.tmp 5)⟩,
 ⟨some 7, none, .mks 8 [(.int .i64 0)] (.tmp 6) (.tmp 6)⟩,
 ⟨some 3, none, .newz [(.slice none 0 0)]⟩,
 ⟨none, none, .st 1 (.tmp 3) (.tmp 7)⟩])
 (.seq (.ops [⟨some 4, none, .newz [.nilFunc]⟩])
 (.seq (.ops [⟨some 8, none, .fn 38 [] [(.tmp 1), (.tmp 4), (.tmp 3)]⟩,
 ⟨none, none, .st 1 (.tmp 4) (.tmp 8)⟩])
 (.seq (.ops [⟨some 9, none, .ld1 (.tmp 4)⟩,
 ⟨some 10, none, .call (.tmp 9) [(.const (.int .i64 0))]⟩])
 (.seq (.ops [⟨some 11, none, .ld1 (.tmp 3)⟩,
 ⟨some 2, none, .mov (.tmp 11)⟩])
 .ret))))))⟩
theorem ok19 : compF Tryz.prog Tryz.f19 = some c19 := by kernel_rfl
def c20 : CF := ⟨22, [.tmp 3],
 (.seq (.ops [⟨some 3, none, .mov (.const (.string ⟨#[]⟩))⟩])
 (.seq (.ops [⟨some 4, none, .mov (.const (.slice none 0 0))⟩])
 (.seq (.seq (.ops [⟨some 7, none, .mov (.tmp 0)⟩,
 ⟨some 8, none, .lnl (.tmp 7)⟩,
 ⟨some 9, none, .mov (.const (.int .i64 0))⟩])
 (.block 0 (.loop (.seq (.ops [⟨some 10, none, .bin .lss (.tmp 9) (.tmp 8)⟩])
 (.seq (.cond (.tmp 10)
 .skip
 (.exit 0))
 (.seq (.block 1 (.seq (.ops [⟨some 11, none, .iad 1 (.tmp 7) (.tmp 9)⟩,
 ⟨some 12, none, .ld1 (.tmp 11)⟩,
 ⟨some 6, none, .mov (.tmp 12)⟩])
 (.ops [⟨some 13, none, .mov (.tmp 4)⟩,
 ⟨some 14, none, .ld1 (.tmp 1)⟩,
 ⟨some 15, none, .mov (.tmp 6)⟩,
 ⟨some 16, none, .call (.tmp 14) [(.tmp 15)]⟩,
 ⟨some 17, none, .lits [(.string ⟨#[]⟩)] 1 [(0, 1, (.tmp 16))]⟩,
 ⟨some 18, none, .app 1 16 (.tmp 13) (.tmp 17)⟩,
 ⟨some 4, none, .mov (.tmp 18)⟩])))
 (.ops [⟨some 19, none, .bin .add (.tmp 9) (.const (.int .i64 1))⟩,
 ⟨some 9, none, .mov (.tmp 19)⟩])))))))
 (.seq (.ops [⟨some 20, none, .mov (.tmp 4)⟩,
 ⟨some 21, none, .call (.func 21) [(.tmp 20), (.const (.string ⟨#[32]⟩))]⟩,
 ⟨some 3, none, .mov (.tmp 21)⟩])
 .ret))))⟩
theorem ok20 : compF Tryz.prog Tryz.f20 = some c20 := by kernel_rfl
def c22 : CF := ⟨159, [.tmp 7],
 (.seq (.ops [⟨some 7, none, .mov (.const (.string ⟨#[]⟩))⟩])
 (.seq (.ops [⟨some 17, none, .ld1 (.tmp 1)⟩,
 ⟨some 18, none, .mov (.tmp 0)⟩,
 ⟨some 19, none, .iad 6 (.tmp 17) (.tmp 18)⟩,
 ⟨some 20, none, .ld 6 (.tmp 19)⟩,
 ⟨some 8, none, .newz [(.int .i64 0), (.int .i64 0), (.int .i64 0), (.string ⟨#[]⟩), (.int .i32 0), (.int .i32 0)]⟩,
 ⟨none, none, .st 6 (.tmp 8) (.tmp 20)⟩])
 (.seq (.ops [⟨some 21, none, .fad (.tmp 8) 2⟩,
 ⟨some 22, none, .ld1 (.tmp 21)⟩,
 ⟨some 23, none, .call (.func 23) [(.tmp 22), (.const (.int .i64 10))]⟩,
 ⟨some 9, none, .mov (.tmp 23)⟩])
 (.seq (.ops [⟨some 24, none, .ld1 (.tmp 1)⟩,
 ⟨some 25, none, .ld1 (.tmp 2)⟩,
 ⟨some 26, none, .mov (.tmp 0)⟩,
 ⟨some 27, none, .call (.func 24) [(.tmp 24), (.tmp 25), (.tmp 26)]⟩,
 ⟨some 10, none, .mov (.tmp 27)⟩])
 (.seq (.seq (.ops [⟨some 28, none, .fad (.tmp 8) 0⟩,
 ⟨some 29, none, .ld1 (.tmp 28)⟩])
 (.block 0 (.seq (.ops [⟨some 31, none, .bin .eql (.tmp 29) (.const (.int .i64 1))⟩,
 ⟨some 30, none, .mov (.tmp 31)⟩])
 (.cond (.tmp 30)
 (.seq (.ops [⟨some 32, none, .mov (.tmp 9)⟩,
 ⟨some 7, none, .mov (.tmp 32)⟩])
 .ret)
 (.seq (.ops [⟨some 34, none, .bin .eql (.tmp 29) (.const (.int .i64 2))⟩,
 ⟨some 33, none, .mov (.tmp 34)⟩])
 (.cond (.tmp 33)
 (.seq (.ops [⟨some 35, none, .fad (.tmp 8) 2⟩,
 ⟨some 36, none, .ld1 (.tmp 35)⟩,
 ⟨some 37, none, .bin .mul (.const (.int .i64 2)) (.tmp 36)⟩,
 ⟨some 38, none, .fad (.tmp 8) 2⟩,
 ⟨some 39, none, .ld1 (.tmp 38)⟩,
 ⟨some 40, none, .bin .mul (.const (.int .i64 2)) (.tmp 39)⟩,
 ⟨some 41, none, .bin .add (.tmp 40) (.const (.int .i64 2))⟩,
 ⟨some 42, none, .sls (.const (.string ⟨#[35, 102, 35, 116]⟩)) (some (.tmp 37)) (some (.tmp 41))⟩,
 ⟨some 7, none, .mov (.tmp 42)⟩])
 .ret)
 (.seq (.ops [⟨some 44, none, .bin .eql (.tmp 29) (.const (.int .i64 3))⟩,
 ⟨some 43, none, .mov (.tmp 44)⟩])
 (.cond (.tmp 43)
 (.seq (.ops [⟨some 45, none, .fad (.tmp 8) 3⟩,
 ⟨some 46, none, .ld1 (.tmp 45)⟩,
 ⟨some 47, none, .bin .add (.const (.string ⟨#[39]⟩)) (.tmp 46)⟩,
 ⟨some 7, none, .mov (.tmp 47)⟩])
 .ret)
 (.seq (.ops [⟨some 49, none, .bin .eql (.tmp 29) (.const (.int .i64 4))⟩,
 ⟨some 48, none, .mov (.tmp 49)⟩])
 (.cond (.tmp 48)
 (.seq (.ops [⟨some 7, none, .mov (.const (.string ⟨#[39, 40, 41]⟩))⟩])
 .ret)
 (.seq (.ops [⟨some 51, none, .bin .eql (.tmp 29) (.const (.int .i64 5))⟩,
 ⟨some 50, none, .mov (.tmp 51)⟩])
 (.cond (.tmp 50)
 (.seq (.ops [⟨some 52, none, .ld1 (.tmp 3)⟩,
 ⟨some 53, none, .mov (.tmp 10)⟩,
 ⟨some 54, none, .call (.tmp 52) [(.tmp 53)]⟩,
 ⟨some 55, none, .bin .add (.const (.string ⟨#[40, 112, 97, 105, 114, 32]⟩)) (.tmp 54)⟩,
 ⟨some 56, none, .bin .add (.tmp 55) (.const (.string ⟨#[41]⟩))⟩,
 ⟨some 7, none, .mov (.tmp 56)⟩])
 .ret)
 (.seq (.ops [⟨some 58, none, .bin .eql (.tmp 29) (.const (.int .i64 6))⟩,
 ⟨some 57, none, .mov (.tmp 58)⟩])
 (.cond (.tmp 57)
 (.seq (.ops [⟨some 59, none, .fad (.tmp 8) 3⟩,
 ⟨some 60, none, .ld1 (.tmp 59)⟩,
 ⟨some 7, none, .mov (.tmp 60)⟩])
 .ret)
 (.seq (.seq (.ops [⟨some 62, none, .bin .eql (.tmp 29) (.const (.int .i64 7))⟩,
 ⟨some 61, none, .mov (.tmp 62)⟩])
 (.cond (.tmp 61)
 .skip
 (.ops [⟨some 63, none, .bin .eql (.tmp 29) (.const (.int .i64 12))⟩,
 ⟨some 61, none, .mov (.tmp 63)⟩])))
 (.cond (.tmp 61)
 (.seq (.seq (.ops [⟨some 64, none, .ld1 (.tmp 4)⟩])
 (.cond (.tmp 64)
 (.seq (.ops [⟨some 65, none, .mov (.tmp 9)⟩,
 ⟨some 66, none, .bin .add (.const (.string ⟨#[118]⟩)) (.tmp 65)⟩,
 ⟨some 7, none, .mov (.tmp 66)⟩])
 .ret)
 .skip))
 (.seq (.ops [⟨some 67, none, .mov (.tmp 9)⟩,
 ⟨some 68, none, .bin .add (.const (.string ⟨#[36]⟩)) (.tmp 67)⟩,
 ⟨some 7, none, .mov (.tmp 68)⟩])
 .ret))
 (.seq (.ops [⟨some 70, none, .bin .eql (.tmp 29) (.const (.int .i64 8))⟩,
 ⟨some 69, none, .mov (.tmp 70)⟩])
 (.cond (.tmp 69)
 (.seq (.seq (.ops [⟨some 71, none, .ld1 (.tmp 4)⟩])
 (.cond (.tmp 71)
 (.draw [⟨some 72, none, .ld1 (.tmp 3)⟩,
 ⟨some 73, none, .mov (.tmp 10)⟩,
 ⟨some 74, none, .fad (.tmp 8) 2⟩,
 ⟨some 75, none, .ld1 (.tmp 74)⟩,
 ⟨some 76, none, .sl 1 (.tmp 73) none (some (.tmp 75)) none⟩,
 ⟨some 77, none, .call (.tmp 72) [(.tmp 76)]⟩,
 ⟨some 78, none, .bin .add (.const (.string ⟨#[40]⟩)) (.tmp 77)⟩,
 ⟨some 79, none, .bin .add (.tmp 78) (.const (.string ⟨#[41]⟩))⟩,
 ⟨some 9, none, .mov (.tmp 79)⟩] [(0, 1), (0, 2), (1, 2), (0, 3), (1, 3), (0, 4)])
 .skip))
 (.seq (.draw [⟨some 80, none, .mov (.tmp 9)⟩,
 ⟨some 81, none, .bin .add (.const (.string ⟨#[40, 108, 97, 109, 98, 100, 97, 32]⟩)) (.tmp 80)⟩,
 ⟨some 82, none, .bin .add (.tmp 81) (.const (.string ⟨#[32]⟩))⟩,
 ⟨some 83, none, .ld1 (.tmp 5)⟩,
 ⟨some 84, none, .mov (.tmp 10)⟩,
 ⟨some 85, none, .mov (.tmp 10)⟩,
 ⟨some 86, none, .lnl (.tmp 85)⟩,
 ⟨some 87, none, .bin .sub (.tmp 86) (.const (.int .i64 1))⟩,
 ⟨some 88, none, .iad 1 (.tmp 84) (.tmp 87)⟩,
 ⟨some 89, none, .ld1 (.tmp 88)⟩,
 ⟨some 90, none, .call (.tmp 83) [(.tmp 89)]⟩,
 ⟨some 91, none, .bin .add (.tmp 82) (.tmp 90)⟩,
 ⟨some 92, none, .bin .add (.tmp 91) (.const (.string ⟨#[41]⟩))⟩,
 ⟨some 7, none, .mov (.tmp 92)⟩] [(0, 3), (1, 3), (2, 3), (0, 4), (1, 4), (2, 4), (3, 4), (0, 5), (1, 5), (2, 5), (3, 5), (4, 5), (0, 6), (1, 6), (2, 6), (3, 6), (4, 6), (0, 7), (1, 7), (2, 7), (3, 7), (4, 7), (0, 8), (1, 8), (2, 8), (3, 8), (0, 9), (1, 9), (2, 9), (3, 9), (0, 10), (1, 10), (2, 10)])
 .ret))
 (.seq (.ops [⟨some 94, none, .bin .eql (.tmp 29) (.const (.int .i64 10))⟩,
 ⟨some 93, none, .mov (.tmp 94)⟩])
 (.cond (.tmp 93)
 (.seq (.ops [⟨some 95, none, .ld1 (.tmp 3)⟩,
 ⟨some 96, none, .mov (.tmp 10)⟩,
 ⟨some 97, none, .call (.tmp 95) [(.tmp 96)]⟩,
 ⟨some 98, none, .bin .add (.const (.string ⟨#[40, 105, 102, 32]⟩)) (.tmp 97)⟩,
 ⟨some 99, none, .bin .add (.tmp 98) (.const (.string ⟨#[41]⟩))⟩,
 ⟨some 7, none, .mov (.tmp 99)⟩])
 .ret)
 (.seq (.ops [⟨some 101, none, .bin .eql (.tmp 29) (.const (.int .i64 11))⟩,
 ⟨some 100, none, .mov (.tmp 101)⟩])
 (.cond (.tmp 100)
 (.seq (.ops [⟨some 103, none, .ld 6 (.tmp 8)⟩,
 ⟨some 104, none, .ld1 (.tmp 4)⟩,
 ⟨some 105, none, .call (.func 14) [(.tmp 103), (.tmp 104)]⟩,
 ⟨some 102, none, .mov (.tmp 105)⟩,
 ⟨some 106, none, .ext (.tmp 102) 0⟩,
 ⟨some 107, none, .ext (.tmp 102) 1⟩,
 ⟨some 11, none, .mov (.tmp 106)⟩,
 ⟨some 12, none, .mov (.tmp 107)⟩])
 (.seq (.ops [⟨some 13, none, .mov (.const (.slice none 0 0))⟩])
 (.seq (.seq (.ops [⟨some 108, none, .mov (.tmp 10)⟩,
 ⟨some 109, none, .mov (.tmp 11)⟩,
 ⟨some 110, none, .mov (.tmp 10)⟩,
 ⟨some 111, none, .lnl (.tmp 110)⟩,
 ⟨some 112, none, .bin .sub (.tmp 111) (.const (.int .i64 1))⟩,
 ⟨some 113, none, .sl 1 (.tmp 108) (some (.tmp 109)) (some (.tmp 112)) none⟩,
 ⟨some 114, none, .lnl (.tmp 113)⟩,
 ⟨some 115, none, .mov (.const (.int .i64 0))⟩])
 (.block 1 (.loop (.seq (.ops [⟨some 116, none, .bin .lss (.tmp 115) (.tmp 114)⟩])
 (.seq (.cond (.tmp 116)
 .skip
 (.exit 1))
 (.seq (.block 2 (.seq (.ops [⟨some 117, none, .mov (.tmp 115)⟩,
 ⟨some 118, none, .iad 1 (.tmp 113) (.tmp 115)⟩,
 ⟨some 119, none, .ld1 (.tmp 118)⟩,
 ⟨some 14, none, .mov (.tmp 117)⟩,
 ⟨some 15, none, .mov (.tmp 119)⟩])
 (.seq (.ops [⟨some 120, none, .ld1 (.tmp 5)⟩,
 ⟨some 121, none, .mov (.tmp 15)⟩,
 ⟨some 122, none, .call (.tmp 120) [(.tmp 121)]⟩,
 ⟨some 16, none, .mov (.tmp 122)⟩])
 (.seq (.seq (.ops [⟨some 123, none, .ld1 (.tmp 4)⟩])
 (.cond (.tmp 123)
 (.draw [⟨some 124, none, .ld1 (.tmp 5)⟩,
 ⟨some 125, none, .mov (.tmp 10)⟩,
 ⟨some 126, none, .mov (.tmp 14)⟩,
 ⟨some 127, none, .iad 1 (.tmp 125) (.tmp 126)⟩,
 ⟨some 128, none, .ld1 (.tmp 127)⟩,
 ⟨some 129, none, .call (.tmp 124) [(.tmp 128)]⟩,
 ⟨some 130, none, .bin .add (.const (.string ⟨#[40]⟩)) (.tmp 129)⟩,
 ⟨some 131, none, .bin .add (.tmp 130) (.const (.string ⟨#[32]⟩))⟩,
 ⟨some 132, none, .mov (.tmp 16)⟩,
 ⟨some 133, none, .bin .add (.tmp 131) (.tmp 132)⟩,
 ⟨some 134, none, .bin .add (.tmp 133) (.const (.string ⟨#[41]⟩))⟩,
 ⟨some 16, none, .mov (.tmp 134)⟩] [(0, 1), (0, 2), (1, 2), (0, 3), (0, 4), (0, 8), (1, 8), (2, 8), (3, 8), (4, 8), (5, 8), (6, 8), (7, 8)])
 .skip))
 (.ops [⟨some 135, none, .mov (.tmp 13)⟩,
 ⟨some 136, none, .mov (.tmp 16)⟩,
 ⟨some 137, none, .lits [(.string ⟨#[]⟩)] 1 [(0, 1, (.tmp 136))]⟩,
 ⟨some 138, none, .app 1 16 (.tmp 135) (.tmp 137)⟩,
 ⟨some 13, none, .mov (.tmp 138)⟩])))))
 (.ops [⟨some 139, none, .bin .add (.tmp 115) (.const (.int .i64 1))⟩,
 ⟨some 115, none, .mov (.tmp 139)⟩])))))))
 (.seq (.draw [⟨some 140, none, .mov (.tmp 13)⟩,
 ⟨some 141, none, .call (.func 21) [(.tmp 140), (.const (.string ⟨#[32]⟩))]⟩,
 ⟨some 142, none, .bin .add (.const (.string ⟨#[40, 114, 101, 99, 32, 40]⟩)) (.tmp 141)⟩,
 ⟨some 143, none, .bin .add (.tmp 142) (.const (.string ⟨#[41, 32]⟩))⟩,
 ⟨some 144, none, .ld1 (.tmp 5)⟩,
 ⟨some 145, none, .mov (.tmp 10)⟩,
 ⟨some 146, none, .mov (.tmp 10)⟩,
 ⟨some 147, none, .lnl (.tmp 146)⟩,
 ⟨some 148, none, .bin .sub (.tmp 147) (.const (.int .i64 1))⟩,
 ⟨some 149, none, .iad 1 (.tmp 145) (.tmp 148)⟩,
 ⟨some 150, none, .ld1 (.tmp 149)⟩,
 ⟨some 151, none, .call (.tmp 144) [(.tmp 150)]⟩,
 ⟨some 152, none, .bin .add (.tmp 143) (.tmp 151)⟩,
 ⟨some 153, none, .bin .add (.tmp 152) (.const (.string ⟨#[41]⟩))⟩,
 ⟨some 7, none, .mov (.tmp 153)⟩] [(0, 4), (1, 4), (2, 4), (3, 4), (0, 5), (1, 5), (2, 5), (3, 5), (4, 5), (0, 6), (1, 6), (2, 6), (3, 6), (4, 6), (5, 6), (0, 7), (1, 7), (2, 7), (3, 7), (4, 7), (5, 7), (0, 8), (1, 8), (2, 8), (3, 8), (4, 8), (5, 8), (0, 9), (1, 9), (2, 9), (3, 9), (4, 9), (0, 10), (1, 10), (2, 10), (3, 10), (4, 10), (2, 11), (3, 11)])
 .ret))))
 .skip))))))))))))))))))))))
 (.seq (.ops [⟨some 154, none, .ld1 (.tmp 3)⟩,
 ⟨some 155, none, .mov (.tmp 10)⟩,
 ⟨some 156, none, .call (.tmp 154) [(.tmp 155)]⟩,
 ⟨some 157, none, .bin .add (.const (.string ⟨#[40]⟩)) (.tmp 156)⟩,
 ⟨some 158, none, .bin .add (.tmp 157) (.const (.string ⟨#[41]⟩))⟩,
 ⟨some 7, none, .mov (.tmp 158)⟩])
 .ret))))))⟩
theorem ok22 : compF Tryz.prog Tryz.f22 = some c22 := by kernel_rfl
def c23 : CF := ⟨8, [.tmp 4],
 (.seq (.ops [⟨some 4, none, .mov (.const (.string ⟨#[]⟩))⟩])
 (.seq (.ops [⟨some 5, none, .mov (.tmp 0)⟩,
 ⟨some 6, none, .mov (.tmp 1)⟩,
 ⟨some 7, none, .call (.func 42) [(.tmp 5), (.tmp 6)]⟩,
 ⟨some 4, none, .mov (.tmp 7)⟩])
 .ret))⟩
theorem ok23 : compF Tryz.prog Tryz.f23 = some c23 := by kernel_rfl
def c24 : CF := ⟨26, [.tmp 6],
 (.seq (.ops [⟨some 6, none, .mov (.const (.slice none 0 0))⟩])
 (.seq (.ops [⟨some 7, none, .mov (.const (.slice none 0 0))⟩])
 (.seq (.seq (.ops [⟨some 9, none, .mov (.tmp 2)⟩,
 ⟨some 10, none, .bin .add (.tmp 9) (.const (.int .i64 1))⟩,
 ⟨some 8, none, .mov (.tmp 10)⟩])
 (.block 0 (.loop (.seq (.seq (.ops [⟨some 11, none, .mov (.tmp 8)⟩,
 ⟨some 12, none, .mov (.tmp 1)⟩,
 ⟨some 13, none, .mov (.tmp 2)⟩,
 ⟨some 14, none, .iad 1 (.tmp 12) (.tmp 13)⟩,
 ⟨some 15, none, .ld1 (.tmp 14)⟩,
 ⟨some 16, none, .bin .lss (.tmp 11) (.tmp 15)⟩])
 (.cond (.tmp 16)
 .skip
 (.exit 0)))
 (.seq (.block 1 (.ops [⟨some 21, none, .mov (.tmp 7)⟩,
 ⟨some 22, none, .mov (.tmp 8)⟩,
 ⟨some 23, none, .lits [(.int .i64 0)] 1 [(0, 1, (.tmp 22))]⟩,
 ⟨some 24, none, .app 1 8 (.tmp 21) (.tmp 23)⟩,
 ⟨some 7, none, .mov (.tmp 24)⟩]))
 (.ops [⟨some 17, none, .mov (.tmp 1)⟩,
 ⟨some 18, none, .mov (.tmp 8)⟩,
 ⟨some 19, none, .iad 1 (.tmp 17) (.tmp 18)⟩,
 ⟨some 20, none, .ld1 (.tmp 19)⟩,
 ⟨some 8, none, .mov (.tmp 20)⟩]))))))
 (.seq (.ops [⟨some 25, none, .mov (.tmp 7)⟩,
 ⟨some 6, none, .mov (.tmp 25)⟩])
 .ret))))⟩
theorem ok24 : compF Tryz.prog Tryz.f24 = some c24 := by kernel_rfl
def c25 : CF := ⟨7, [.tmp 0],
 (.seq (.ops [⟨some 0, none, .mov (.const (.slice none 0 0))⟩])
 (.seq (.ops [⟨some 1, none, .agg [(.int .i64 0), (.int .i64 0), (.int .i64 0), (.string ⟨#[]⟩), (.int .i32 0), (.int .i32 0)] [(0, 1, (.const (.int .i64 8))), (1, 1, (.const (.int .i64 2))), (2, 1, (.const (.int .i64 1))), (4, 1, (.const (.int .i32 4)))]⟩,
 ⟨some 2, none, .agg [(.int .i64 0), (.int .i64 0), (.int .i64 0), (.string ⟨#[]⟩), (.int .i32 0), (.int .i32 0)] [(0, 1, (.const (.int .i64 12))), (2, 1, (.const (.int .i64 3)))]⟩,
 ⟨some 3, none, .agg [(.int .i64 0), (.int .i64 0), (.int .i64 0), (.string ⟨#[]⟩), (.int .i32 0), (.int .i32 0)] [(0, 1, (.const (.int .i64 8))), (1, 1, (.const (.int .i64 2))), (2, 1, (.const (.int .i64 1))), (5, 1, (.const (.int .i32 9)))]⟩,
 ⟨some 4, none, .agg [(.int .i64 0), (.int .i64 0), (.int .i64 0), (.string ⟨#[]⟩), (.int .i32 0), (.int .i32 0)] [(0, 1, (.const (.int .i64 12))), (2, 1, (.const (.int .i64 5)))]⟩,
 ⟨some 5, none, .agg [(.int .i64 0), (.int .i64 0), (.int .i64 0), (.string ⟨#[]⟩), (.int .i32 0), (.int .i32 0)] [(0, 1, (.const (.int .i64 7))), (2, 1, (.const (.int .i64 3)))]⟩,
 ⟨some 6, none, .lits [(.int .i64 0), (.int .i64 0), (.int .i64 0), (.string ⟨#[]⟩), (.int .i32 0), (.int .i32 0), (.int .i64 0), (.int .i64 0), (.int .i64 0), (.string ⟨#[]⟩), (.int .i32 0), (.int .i32 0), (.int .i64 0), (.int .i64 0), (.int .i64 0), (.string ⟨#[]⟩), (.int .i32 0), (.int .i32 0), (.int .i64 0), (.int .i64 0), (.int .i64 0), (.string ⟨#[]⟩), (.int .i32 0), (.int .i32 0), (.int .i64 0), (.int .i64 0), (.int .i64 0), (.string ⟨#[]⟩), (.int .i32 0), (.int .i32 0)] 5 [(0, 6, (.tmp 1)), (6, 6, (.tmp 2)), (12, 6, (.tmp 3)), (18, 6, (.tmp 4)), (24, 6, (.tmp 5))]⟩,
 ⟨some 0, none, .mov (.tmp 6)⟩])
 .ret))⟩
theorem ok25 : compF Tryz.prog Tryz.f25 = some c25 := by kernel_rfl
def c26 : CF := ⟨67, [.cell1 6, .cell1 7, .tmp 8],
 (.seq (.ops [⟨some 3, none, .box (.tmp 0)⟩,
 ⟨some 5, none, .box (.tmp 2)⟩,
 ⟨some 6, none, .newz [(.slice none 0 0)]⟩,
 ⟨some 7, none, .newz [(.int .i64 0)]⟩,
 ⟨some 8, none, .mov (.const (.int .i64 0))⟩])
 (.seq (.seq (.ops [⟨some 19, none, .ld1 (.tmp 3)⟩,
 ⟨some 20, none, .call (.func 9) [(.tmp 19), (.const (.bool false))]⟩,
 ⟨some 18, none, .mov (.tmp 20)⟩,
 ⟨some 21, none, .ext (.tmp 18) 0⟩,
 ⟨some 22, none, .ext (.tmp 18) 1⟩,
 ⟨some 9, none, .mov (.tmp 21)⟩,
 ⟨some 10, none, .mov (.tmp 22)⟩])
 (.seq (.ops [⟨some 23, none, .mov (.tmp 10)⟩,
 ⟨some 24, none, .bin .neq (.tmp 23) (.const (.int .i64 0))⟩])
 (.cond (.tmp 24)
 (.seq (.ops [⟨some 25, none, .mov (.tmp 9)⟩,
 ⟨some 26, none, .mov (.tmp 10)⟩,
 ⟨none, none, .st 1 (.tmp 6) (.const (.slice none 0 0))⟩,
 ⟨none, none, .st 1 (.tmp 7) (.tmp 25)⟩,
 ⟨some 8, none, .mov (.tmp 26)⟩])
 .ret)
 .skip)))
 (.seq (.ops [⟨some 11, none, .mov (.func 43)⟩])
 (.seq (.seq (.ops [⟨some 27, none, .mov (.tmp 11)⟩,
 ⟨some 28, none, .ld1 (.tmp 5)⟩,
 ⟨some 29, none, .call (.tmp 27) [(.tmp 28)]⟩,
 ⟨some 30, none, .mov (.tmp 29)⟩,
 ⟨some 31, (some (30, false)), .mov (.tmp 1)⟩,
 ⟨some 32, (some (30, false)), .mov (.tmp 11)⟩,
 ⟨some 33, (some (30, false)), .call (.func 44) [(.tmp 31), (.tmp 32)]⟩,
 ⟨some 34, none, .pick (.tmp 30) (.const (.bool true)) (.tmp 33)⟩])
 (.cond (.tmp 34)
 (.seq (.ops [⟨none, none, .st 1 (.tmp 6) (.const (.slice none 0 0))⟩,
 ⟨none, none, .st 1 (.tmp 7) (.const (.int .i64 0))⟩,
 ⟨some 8, none, .mov (.const (.int .i64 7))⟩])
 .ret)
 .skip))
 (.seq (.seq (.ops [⟨some 36, none, .mov (.tmp 1)⟩,
 ⟨some 37, none, .call (.func 10) [(.tmp 36)]⟩,
 ⟨some 35, none, .mov (.tmp 37)⟩,
 ⟨some 38, none, .ext (.tmp 35) 0⟩,
 ⟨some 39, none, .ext (.tmp 35) 1⟩,
 ⟨some 12, none, .mov (.tmp 38)⟩,
 ⟨some 13, none, .mov (.tmp 39)⟩])
 (.seq (.ops [⟨some 40, none, .mov (.tmp 13)⟩,
 ⟨some 41, none, .bin .neq (.tmp 40) (.const (.int .i64 0))⟩,
 ⟨some 42, none, .mov (.tmp 41)⟩,
 ⟨some 43, (some (42, false)), .mov (.tmp 1)⟩,
 ⟨some 44, (some (42, false)), .fn 45 [] [(.tmp 5)]⟩,
 ⟨some 45, (some (42, false)), .call (.func 44) [(.tmp 43), (.tmp 44)]⟩,
 ⟨some 46, none, .pick (.tmp 42) (.const (.bool true)) (.tmp 45)⟩])
 (.cond (.tmp 46)
 (.seq (.ops [⟨none, none, .st 1 (.tmp 6) (.const (.slice none 0 0))⟩,
 ⟨none, none, .st 1 (.tmp 7) (.const (.int .i64 0))⟩,
 ⟨some 8, none, .mov (.const (.int .i64 8))⟩])
 .ret)
 .skip)))
 (.seq (.ops [⟨some 47, none, .ld1 (.tmp 3)⟩,
 ⟨some 48, none, .call (.func 19) [(.tmp 47)]⟩,
 ⟨some 14, none, .newz [(.slice none 0 0)]⟩,
 ⟨none, none, .st 1 (.tmp 14) (.tmp 48)⟩])
 (.seq (.ops [⟨none, none, .st 1 (.tmp 7) (.const (.int .i64 (-1)))⟩])
 (.seq (.ops [⟨some 49, none, .ld1 (.tmp 5)⟩,
 ⟨some 15, none, .newz [(.int .i64 0)]⟩,
 ⟨none, none, .st 1 (.tmp 15) (.tmp 49)⟩])
 (.seq (.ops [⟨some 50, none, .mov (.tmp 1)⟩,
 ⟨some 51, none, .call (.func 46) [(.tmp 50)]⟩,
 ⟨some 16, none, .newz [(.slice none 0 0)]⟩,
 ⟨none, none, .st 1 (.tmp 16) (.tmp 51)⟩])
 (.seq (.ops [⟨some 17, none, .newz [.nilFunc]⟩])
 (.seq (.ops [⟨some 52, none, .fn 47 [] [(.tmp 3), (.tmp 16), (.tmp 7), (.tmp 15), (.tmp 6), (.tmp 14), (.tmp 17)]⟩,
 ⟨none, none, .st 1 (.tmp 17) (.tmp 52)⟩])
 (.seq (.ops [⟨some 53, none, .ld1 (.tmp 17)⟩,
 ⟨some 54, none, .call (.tmp 53) [(.const (.int .i64 0))]⟩])
 (.seq (.block 0 (.seq (.ops [⟨some 56, none, .ld1 (.tmp 7)⟩,
 ⟨some 57, none, .bin .geq (.tmp 56) (.const (.int .i64 0))⟩,
 ⟨some 55, none, .mov (.tmp 57)⟩])
 (.cond (.tmp 55)
 (.seq (.draw [⟨some 58, none, .ld1 (.tmp 7)⟩,
 ⟨none, none, .st 1 (.tmp 6) (.const (.slice none 0 0))⟩,
 ⟨none, none, .st 1 (.tmp 7) (.tmp 58)⟩,
 ⟨some 8, none, .mov (.const (.int .i64 10))⟩] [(0, 1)])
 .ret)
 (.seq (.ops [⟨some 60, none, .ld1 (.tmp 6)⟩,
 ⟨some 61, none, .lnl (.tmp 60)⟩,
 ⟨some 62, none, .bin .gtr (.tmp 61) (.const (.int .i64 2000))⟩,
 ⟨some 59, none, .mov (.tmp 62)⟩])
 (.cond (.tmp 59)
 (.seq (.ops [⟨none, none, .st 1 (.tmp 6) (.const (.slice none 0 0))⟩,
 ⟨none, none, .st 1 (.tmp 7) (.const (.int .i64 0))⟩,
 ⟨some 8, none, .mov (.const (.int .i64 3))⟩])
 .ret)
 (.seq (.ops [⟨some 64, none, .ld1 (.tmp 15)⟩,
 ⟨some 65, none, .bin .gtr (.tmp 64) (.const (.int .i64 1000001))⟩,
 ⟨some 63, none, .mov (.tmp 65)⟩])
 (.cond (.tmp 63)
 (.seq (.ops [⟨none, none, .st 1 (.tmp 6) (.const (.slice none 0 0))⟩,
 ⟨none, none, .st 1 (.tmp 7) (.const (.int .i64 0))⟩,
 ⟨some 8, none, .mov (.const (.int .i64 7))⟩])
 .ret)
 .skip)))))))
 (.seq (.ops [⟨some 66, none, .ld1 (.tmp 6)⟩,
 ⟨none, none, .st 1 (.tmp 6) (.tmp 66)⟩,
 ⟨none, none, .st 1 (.tmp 7) (.const (.int .i64 0))⟩,
 ⟨some 8, none, .mov (.const (.int .i64 0))⟩])
 .ret))))))))))))))⟩
theorem ok26 : compF Tryz.prog Tryz.f26 = some c26 := by kernel_rfl
def c27 : CF := ⟨66, [.tmp 2],
 (.seq (.ops [⟨some 1, none, .box (.tmp 0)⟩,
 ⟨some 2, none, .mov (.const (.int .i64 0))⟩])
 (.seq (.ops [⟨some 3, none, .mov (.const (.bool false))⟩,
 ⟨some 4, none, .mov (.const (.bool false))⟩,
 ⟨some 5, none, .mov (.const (.bool false))⟩,
 ⟨some 6, none, .mov (.const (.int .i64 0))⟩,
 ⟨some 7, none, .mov (.const (.int .i64 0))⟩])
 (.seq (.seq (.ops [⟨some 8, none, .fad (.tmp 1) 0⟩,
 ⟨some 9, none, .ld1 (.tmp 8)⟩])
 (.block 0 (.seq (.seq (.ops [⟨some 11, none, .bin .eql (.tmp 9) (.const (.int .i64 1))⟩,
 ⟨some 10, none, .mov (.tmp 11)⟩])
 (.cond (.tmp 10)
 .skip
 (.seq (.ops [⟨some 12, none, .bin .eql (.tmp 9) (.const (.int .i64 2))⟩,
 ⟨some 10, none, .mov (.tmp 12)⟩])
 (.cond (.tmp 10)
 .skip
 (.seq (.ops [⟨some 13, none, .bin .eql (.tmp 9) (.const (.int .i64 7))⟩,
 ⟨some 10, none, .mov (.tmp 13)⟩])
 (.cond (.tmp 10)
 .skip
 (.ops [⟨some 14, none, .bin .eql (.tmp 9) (.const (.int .i64 12))⟩,
 ⟨some 10, none, .mov (.tmp 14)⟩])))))))
 (.cond (.tmp 10)
 (.ops [⟨some 3, none, .mov (.const (.bool true))⟩])
 (.seq (.seq (.ops [⟨some 16, none, .bin .eql (.tmp 9) (.const (.int .i64 3))⟩,
 ⟨some 15, none, .mov (.tmp 16)⟩])
 (.cond (.tmp 15)
 .skip
 (.ops [⟨some 17, none, .bin .eql (.tmp 9) (.const (.int .i64 6))⟩,
 ⟨some 15, none, .mov (.tmp 17)⟩])))
 (.cond (.tmp 15)
 (.ops [⟨some 4, none, .mov (.const (.bool true))⟩])
 (.seq (.ops [⟨some 19, none, .bin .eql (.tmp 9) (.const (.int .i64 5))⟩,
 ⟨some 18, none, .mov (.tmp 19)⟩])
 (.cond (.tmp 18)
 (.ops [⟨some 6, none, .mov (.const (.int .i64 2))⟩,
 ⟨some 7, none, .mov (.const (.int .i64 2))⟩])
 (.seq (.seq (.ops [⟨some 21, none, .bin .eql (.tmp 9) (.const (.int .i64 8))⟩,
 ⟨some 20, none, .mov (.tmp 21)⟩])
 (.cond (.tmp 20)
 .skip
 (.ops [⟨some 22, none, .bin .eql (.tmp 9) (.const (.int .i64 11))⟩,
 ⟨some 20, none, .mov (.tmp 22)⟩])))
 (.cond (.tmp 20)
 (.draw [⟨some 23, none, .fad (.tmp 1) 1⟩,
 ⟨some 24, none, .ld1 (.tmp 23)⟩,
 ⟨some 3, none, .mov (.const (.bool true))⟩,
 ⟨some 5, none, .mov (.const (.bool true))⟩,
 ⟨some 7, none, .mov (.tmp 24)⟩] [(0, 2), (1, 2), (0, 3), (1, 3)])
 (.seq (.ops [⟨some 26, none, .bin .eql (.tmp 9) (.const (.int .i64 9))⟩,
 ⟨some 25, none, .mov (.tmp 26)⟩])
 (.cond (.tmp 25)
 (.ops [⟨some 5, none, .mov (.const (.bool true))⟩,
 ⟨some 6, none, .mov (.const (.int .i64 1))⟩,
 ⟨some 7, none, .mov (.const (.int .i64 9))⟩])
 (.seq (.ops [⟨some 28, none, .bin .eql (.tmp 9) (.const (.int .i64 10))⟩,
 ⟨some 27, none, .mov (.tmp 28)⟩])
 (.cond (.tmp 27)
 (.ops [⟨some 5, none, .mov (.const (.bool true))⟩,
 ⟨some 6, none, .mov (.const (.int .i64 3))⟩,
 ⟨some 7, none, .mov (.const (.int .i64 3))⟩])
 .skip))))))))))))))
 (.seq (.seq (.ops [⟨some 29, none, .mov (.tmp 3)⟩,
 ⟨some 30, none, .un .not (.tmp 29)⟩,
 ⟨some 31, none, .mov (.tmp 30)⟩,
 ⟨some 32, (some (31, true)), .fad (.tmp 1) 2⟩,
 ⟨some 33, (some (31, true)), .ld1 (.tmp 32)⟩,
 ⟨some 34, (some (31, true)), .bin .neq (.tmp 33) (.const (.int .i64 0))⟩,
 ⟨some 35, none, .pick (.tmp 31) (.tmp 34) (.const (.bool false))⟩,
 ⟨some 36, none, .mov (.tmp 35)⟩,
 ⟨some 37, (some (36, false)), .mov (.tmp 4)⟩,
 ⟨some 38, (some (36, false)), .un .not (.tmp 37)⟩,
 ⟨some 39, (some (36, false)), .mov (.tmp 38)⟩,
 ⟨some 40, (some (39, true)), .fad (.tmp 1) 3⟩,
 ⟨some 41, (some (39, true)), .ld1 (.tmp 40)⟩,
 ⟨some 42, (some (39, true)), .bin .neq (.tmp 41) (.const (.string ⟨#[]⟩))⟩,
 ⟨some 43, (some (36, false)), .pick (.tmp 39) (.tmp 42) (.const (.bool false))⟩,
 ⟨some 44, none, .pick (.tmp 36) (.const (.bool true)) (.tmp 43)⟩,
 ⟨some 45, none, .mov (.tmp 44)⟩,
 ⟨some 46, (some (45, false)), .mov (.tmp 5)⟩,
 ⟨some 47, (some (45, false)), .un .not (.tmp 46)⟩,
 ⟨some 48, (some (45, false)), .mov (.tmp 47)⟩,
 ⟨some 49, (some (48, true)), .fad (.tmp 1) 4⟩,
 ⟨some 50, (some (48, true)), .ld1 (.tmp 49)⟩,
 ⟨some 51, (some (48, true)), .bin .neq (.tmp 50) (.const (.int .i32 0))⟩,
 ⟨some 52, (some (45, false)), .pick (.tmp 48) (.tmp 51) (.const (.bool false))⟩,
 ⟨some 53, none, .pick (.tmp 45) (.const (.bool true)) (.tmp 52)⟩,
 ⟨some 54, none, .mov (.tmp 53)⟩,
 ⟨some 55, (some (54, false)), .fad (.tmp 1) 1⟩,
 ⟨some 56, (some (54, false)), .ld1 (.tmp 55)⟩,
 ⟨some 57, (some (54, false)), .mov (.tmp 6)⟩,
 ⟨some 58, (some (54, false)), .bin .lss (.tmp 56) (.tmp 57)⟩,
 ⟨some 59, none, .pick (.tmp 54) (.const (.bool true)) (.tmp 58)⟩,
 ⟨some 60, none, .mov (.tmp 59)⟩,
 ⟨some 61, (some (60, false)), .fad (.tmp 1) 1⟩,
 ⟨some 62, (some (60, false)), .ld1 (.tmp 61)⟩,
 ⟨some 63, (some (60, false)), .mov (.tmp 7)⟩,
 ⟨some 64, (some (60, false)), .bin .gtr (.tmp 62) (.tmp 63)⟩,
 ⟨some 65, none, .pick (.tmp 60) (.const (.bool true)) (.tmp 64)⟩])
 (.cond (.tmp 65)
 (.seq (.ops [⟨some 2, none, .mov (.const (.int .i64 6))⟩])
 .ret)
 .skip))
 (.seq (.ops [⟨some 2, none, .mov (.const (.int .i64 0))⟩])
 .ret)))))⟩
theorem ok27 : compF Tryz.prog Tryz.f27 = some c27 := by kernel_rfl
def c28 : CF := ⟨76, [.tmp 4],
 (.seq (.ops [⟨some 2, none, .box (.tmp 0)⟩,
 ⟨some 4, none, .mov (.const (.int .i64 0))⟩])
 (.seq (.ops [⟨some 5, none, .mov (.const (.int .i64 0))⟩,
 ⟨some 6, none, .mov (.const (.int .i64 0))⟩])
 (.seq (.seq (.ops [⟨some 9, none, .fad (.tmp 2) 0⟩,
 ⟨some 10, none, .ld1 (.tmp 9)⟩])
 (.block 0 (.seq (.block 5 (.seq (.block 4 (.seq (.block 3 (.seq (.block 2 (.seq (.block 1 (.seq (.seq (.seq (.ops [⟨some 12, none, .bin .eql (.tmp 10) (.const (.int .i64 1))⟩,
 ⟨some 11, none, .mov (.tmp 12)⟩])
 (.cond (.tmp 11)
 (.exit 1)
 .skip))
 (.seq (.seq (.ops [⟨some 14, none, .bin .eql (.tmp 10) (.const (.int .i64 2))⟩,
 ⟨some 13, none, .mov (.tmp 14)⟩])
 (.cond (.tmp 13)
 (.exit 2)
 .skip))
 (.seq (.seq (.seq (.ops [⟨some 16, none, .bin .eql (.tmp 10) (.const (.int .i64 7))⟩,
 ⟨some 15, none, .mov (.tmp 16)⟩])
 (.cond (.tmp 15)
 .skip
 (.ops [⟨some 17, none, .bin .eql (.tmp 10) (.const (.int .i64 12))⟩,
 ⟨some 15, none, .mov (.tmp 17)⟩])))
 (.cond (.tmp 15)
 (.exit 3)
 .skip))
 (.seq (.seq (.ops [⟨some 19, none, .bin .eql (.tmp 10) (.const (.int .i64 11))⟩,
 ⟨some 18, none, .mov (.tmp 19)⟩])
 (.cond (.tmp 18)
 (.exit 4)
 .skip))
 (.seq (.ops [⟨some 21, none, .bin .eql (.tmp 10) (.const (.int .i64 8))⟩,
 ⟨some 20, none, .mov (.tmp 21)⟩])
 (.cond (.tmp 20)
 (.exit 5)
 .skip))))))
 (.exit 0)))
 (.seq (.draw [⟨some 22, none, .fad (.tmp 2) 2⟩,
 ⟨some 23, none, .ld1 (.tmp 22)⟩,
 ⟨some 24, none, .fad (.tmp 2) 2⟩,
 ⟨some 25, none, .ld1 (.tmp 24)⟩,
 ⟨some 5, none, .mov (.tmp 23)⟩,
 ⟨some 6, none, .mov (.tmp 25)⟩] [(0, 2), (1, 2), (0, 3), (1, 3), (2, 4), (3, 4)])
 (.exit 0))))
 (.seq (.ops [⟨some 6, none, .mov (.const (.int .i64 1))⟩])
 (.exit 0))))
 (.seq (.ops [⟨some 6, none, .mov (.const (.int .i64 1000000))⟩])
 (.exit 0))))
 (.ops [⟨some 5, none, .mov (.const (.int .i64 1))⟩])))
 (.seq (.ops [⟨some 6, none, .mov (.const (.int .i64 8))⟩])
 (.exit 0)))))
 (.seq (.seq (.ops [⟨some 26, none, .fad (.tmp 2) 2⟩,
 ⟨some 27, none, .ld1 (.tmp 26)⟩,
 ⟨some 28, none, .mov (.tmp 5)⟩,
 ⟨some 29, none, .bin .lss (.tmp 27) (.tmp 28)⟩,
 ⟨some 30, none, .mov (.tmp 29)⟩,
 ⟨some 31, (some (30, false)), .fad (.tmp 2) 2⟩,
 ⟨some 32, (some (30, false)), .ld1 (.tmp 31)⟩,
 ⟨some 33, (some (30, false)), .mov (.tmp 6)⟩,
 ⟨some 34, (some (30, false)), .bin .gtr (.tmp 32) (.tmp 33)⟩,
 ⟨some 35, none, .pick (.tmp 30) (.const (.bool true)) (.tmp 34)⟩,
 ⟨some 36, none, .mov (.tmp 35)⟩,
 ⟨some 37, (some (36, false)), .fad (.tmp 2) 4⟩,
 ⟨some 38, (some (36, false)), .ld1 (.tmp 37)⟩,
 ⟨some 39, (some (36, false)), .bin .lss (.tmp 38) (.const (.int .i32 0))⟩,
 ⟨some 40, none, .pick (.tmp 36) (.const (.bool true)) (.tmp 39)⟩,
 ⟨some 41, none, .mov (.tmp 40)⟩,
 ⟨some 42, (some (41, false)), .fad (.tmp 2) 4⟩,
 ⟨some 43, (some (41, false)), .ld1 (.tmp 42)⟩,
 ⟨some 44, (some (41, false)), .bin .gtr (.tmp 43) (.const (.int .i32 99))⟩,
 ⟨some 45, none, .pick (.tmp 41) (.const (.bool true)) (.tmp 44)⟩,
 ⟨some 46, none, .mov (.tmp 45)⟩,
 ⟨some 47, (some (46, false)), .fad (.tmp 2) 5⟩,
 ⟨some 48, (some (46, false)), .ld1 (.tmp 47)⟩,
 ⟨some 49, (some (46, false)), .bin .lss (.tmp 48) (.const (.int .i32 0))⟩,
 ⟨some 50, none, .pick (.tmp 46) (.const (.bool true)) (.tmp 49)⟩])
 (.cond (.tmp 50)
 (.seq (.ops [⟨some 4, none, .mov (.const (.int .i64 7))⟩])
 .ret)
 .skip))
 (.seq (.ops [⟨some 52, none, .ld 6 (.tmp 2)⟩,
 ⟨some 53, none, .mov (.tmp 1)⟩,
 ⟨some 54, none, .call (.func 14) [(.tmp 52), (.tmp 53)]⟩,
 ⟨some 51, none, .mov (.tmp 54)⟩,
 ⟨some 55, none, .ext (.tmp 51) 0⟩,
 ⟨some 56, none, .ext (.tmp 51) 1⟩,
 ⟨some 7, none, .mov (.tmp 55)⟩,
 ⟨some 8, none, .mov (.tmp 56)⟩])
 (.seq (.seq (.ops [⟨some 57, none, .fad (.tmp 2) 0⟩,
 ⟨some 58, none, .ld1 (.tmp 57)⟩])
 (.block 6 (.seq (.seq (.ops [⟨some 60, none, .bin .eql (.tmp 58) (.const (.int .i64 3))⟩,
 ⟨some 59, none, .mov (.tmp 60)⟩])
 (.cond (.tmp 59)
 .skip
 (.ops [⟨some 61, none, .bin .eql (.tmp 58) (.const (.int .i64 6))⟩,
 ⟨some 59, none, .mov (.tmp 61)⟩])))
 (.cond (.tmp 59)
 (.seq (.ops [⟨some 62, none, .fad (.tmp 2) 3⟩,
 ⟨some 63, none, .ld1 (.tmp 62)⟩,
 ⟨some 64, none, .call (.func 48) [(.tmp 63)]⟩,
 ⟨some 65, none, .un .not (.tmp 64)⟩])
 (.cond (.tmp 65)
 (.seq (.ops [⟨some 4, none, .mov (.const (.int .i64 6))⟩])
 .ret)
 .skip))
 (.seq (.seq (.ops [⟨some 67, none, .bin .eql (.tmp 58) (.const (.int .i64 8))⟩,
 ⟨some 66, none, .mov (.tmp 67)⟩])
 (.cond (.tmp 66)
 .skip
 (.ops [⟨some 68, none, .bin .eql (.tmp 58) (.const (.int .i64 11))⟩,
 ⟨some 66, none, .mov (.tmp 68)⟩])))
 (.cond (.tmp 66)
 (.seq (.ops [⟨some 69, none, .fad (.tmp 2) 1⟩,
 ⟨some 70, none, .ld1 (.tmp 69)⟩,
 ⟨some 71, none, .mov (.tmp 7)⟩,
 ⟨some 72, none, .mov (.tmp 8)⟩,
 ⟨some 73, none, .bin .add (.tmp 71) (.tmp 72)⟩,
 ⟨some 74, none, .bin .add (.tmp 73) (.const (.int .i64 1))⟩,
 ⟨some 75, none, .bin .neq (.tmp 70) (.tmp 74)⟩])
 (.cond (.tmp 75)
 (.seq (.ops [⟨some 4, none, .mov (.const (.int .i64 6))⟩])
 .ret)
 .skip))
 .skip))))))
 (.seq (.ops [⟨some 4, none, .mov (.const (.int .i64 0))⟩])
 .ret)))))))⟩
theorem ok28 : compF Tryz.prog Tryz.f28 = some c28 := by kernel_rfl
def c29 : CF := ⟨25, [.tmp 2],
 (.seq (.ops [⟨some 2, none, .mov (.const (.int .i64 0))⟩])
 (.seq (.seq (.ops [⟨some 5, none, .mov (.tmp 0)⟩,
 ⟨some 6, none, .lnl (.tmp 5)⟩,
 ⟨some 7, none, .bin .lss (.tmp 6) (.const (.int .i64 1))⟩])
 (.cond (.tmp 7)
 (.ops [⟨some 8, none, .ifc 9 (.const (.string ⟨#[115, 108, 105, 99, 101, 115, 46, 77, 97, 120, 58, 32, 101, 109, 112, 116, 121, 32, 108, 105, 115, 116]⟩))⟩,
 ⟨none, none, .bad⟩])
 .skip))
 (.seq (.ops [⟨some 9, none, .mov (.tmp 0)⟩,
 ⟨some 10, none, .iad 1 (.tmp 9) (.const (.int .i64 0))⟩,
 ⟨some 11, none, .ld1 (.tmp 10)⟩,
 ⟨some 3, none, .mov (.tmp 11)⟩])
 (.seq (.seq (.ops [⟨some 4, none, .mov (.const (.int .i64 1))⟩])
 (.block 0 (.loop (.seq (.seq (.ops [⟨some 12, none, .mov (.tmp 4)⟩,
 ⟨some 13, none, .mov (.tmp 0)⟩,
 ⟨some 14, none, .lnl (.tmp 13)⟩,
 ⟨some 15, none, .bin .lss (.tmp 12) (.tmp 14)⟩])
 (.cond (.tmp 15)
 .skip
 (.exit 0)))
 (.seq (.block 1 (.ops [⟨some 18, none, .mov (.tmp 3)⟩,
 ⟨some 19, none, .mov (.tmp 0)⟩,
 ⟨some 20, none, .mov (.tmp 4)⟩,
 ⟨some 21, none, .iad 1 (.tmp 19) (.tmp 20)⟩,
 ⟨some 22, none, .ld1 (.tmp 21)⟩,
 ⟨some 23, none, .mnx true [(.tmp 18), (.tmp 22)]⟩,
 ⟨some 3, none, .mov (.tmp 23)⟩]))
 (.ops [⟨some 16, none, .mov (.tmp 4)⟩,
 ⟨some 17, none, .bin .add (.tmp 16) (.const (.int .i64 1))⟩,
 ⟨some 4, none, .mov (.tmp 17)⟩]))))))
 (.seq (.ops [⟨some 24, none, .mov (.tmp 3)⟩,
 ⟨some 2, none, .mov (.tmp 24)⟩])
 .ret)))))⟩
theorem ok29 : compF Tryz.prog Tryz.f29 = some c29 := by kernel_rfl
def c30 : CF := ⟨99, [.tmp 8],
 (.seq (.ops [⟨some 8, none, .mov (.const (.int .i64 0))⟩])
 (.seq (.ops [⟨some 17, none, .mov (.tmp 0)⟩,
 ⟨some 18, none, .mov (.tmp 2)⟩,
 ⟨some 19, none, .iad 6 (.tmp 17) (.tmp 18)⟩,
 ⟨some 20, none, .ld 6 (.tmp 19)⟩,
 ⟨some 21, none, .mov (.tmp 3)⟩,
 ⟨some 22, none, .call (.func 14) [(.tmp 20), (.tmp 21)]⟩,
 ⟨some 16, none, .mov (.tmp 22)⟩,
 ⟨some 23, none, .ext (.tmp 16) 0⟩,
 ⟨some 24, none, .ext (.tmp 16) 1⟩,
 ⟨some 9, none, .mov (.tmp 23)⟩,
 ⟨some 10, none, .mov (.tmp 24)⟩])
 (.seq (.seq (.ops [⟨some 25, none, .mov (.tmp 0)⟩,
 ⟨some 26, none, .mov (.tmp 2)⟩,
 ⟨some 27, none, .iad 6 (.tmp 25) (.tmp 26)⟩,
 ⟨some 28, none, .fad (.tmp 27) 1⟩,
 ⟨some 29, none, .ld1 (.tmp 28)⟩,
 ⟨some 30, none, .bin .eql (.tmp 29) (.const (.int .i64 0))⟩])
 (.cond (.tmp 30)
 (.seq (.ops [⟨some 8, none, .mov (.const (.int .i64 0))⟩])
 .ret)
 .skip))
 (.seq (.ops [⟨some 11, none, .mov (.const (.map none))⟩])
 (.seq (.seq (.ops [⟨some 31, none, .mov (.tmp 9)⟩,
 ⟨some 32, none, .bin .gtr (.tmp 31) (.const (.int .i64 0))⟩])
 (.cond (.tmp 32)
 (.ops [⟨some 33, none, .mkm⟩,
 ⟨some 11, none, .mov (.tmp 33)⟩])
 .skip))
 (.seq (.ops [⟨some 12, none, .mov (.const (.bool false))⟩])
 (.seq (.seq (.ops [⟨some 34, none, .mov (.tmp 0)⟩,
 ⟨some 35, none, .mov (.tmp 1)⟩,
 ⟨some 36, none, .mov (.tmp 2)⟩,
 ⟨some 37, none, .call (.func 24) [(.tmp 34), (.tmp 35), (.tmp 36)]⟩,
 ⟨some 38, none, .lnl (.tmp 37)⟩,
 ⟨some 39, none, .mov (.const (.int .i64 0))⟩])
 (.block 0 (.loop (.seq (.ops [⟨some 40, none, .bin .lss (.tmp 39) (.tmp 38)⟩])
 (.seq (.cond (.tmp 40)
 .skip
 (.exit 0))
 (.seq (.block 1 (.seq (.ops [⟨some 41, none, .mov (.tmp 39)⟩,
 ⟨some 42, none, .iad 1 (.tmp 37) (.tmp 39)⟩,
 ⟨some 43, none, .ld1 (.tmp 42)⟩,
 ⟨some 13, none, .mov (.tmp 41)⟩,
 ⟨some 14, none, .mov (.tmp 43)⟩])
 (.seq (.ops [⟨some 44, none, .mov (.tmp 0)⟩,
 ⟨some 45, none, .mov (.tmp 14)⟩,
 ⟨some 46, none, .iad 6 (.tmp 44) (.tmp 45)⟩,
 ⟨some 47, none, .ld 6 (.tmp 46)⟩,
 ⟨some 15, none, .newz [(.int .i64 0), (.int .i64 0), (.int .i64 0), (.string ⟨#[]⟩), (.int .i32 0), (.int .i32 0)]⟩,
 ⟨none, none, .st 6 (.tmp 15) (.tmp 47)⟩])
 (.block 2 (.seq (.seq (.ops [⟨some 49, none, .fad (.tmp 15) 0⟩,
 ⟨some 50, none, .ld1 (.tmp 49)⟩,
 ⟨some 51, none, .bin .eql (.tmp 50) (.const (.int .i64 12))⟩,
 ⟨some 52, none, .mov (.tmp 13)⟩,
 ⟨some 53, none, .mov (.tmp 9)⟩,
 ⟨some 54, none, .bin .lss (.tmp 52) (.tmp 53)⟩,
 ⟨some 55, none, .eqb true (.tmp 51) (.tmp 54)⟩,
 ⟨some 48, none, .mov (.tmp 55)⟩])
 (.cond (.tmp 48)
 .skip
 (.seq (.ops [⟨some 56, none, .mov (.tmp 13)⟩,
 ⟨some 57, none, .mov (.tmp 9)⟩,
 ⟨some 58, none, .bin .geq (.tmp 56) (.tmp 57)⟩,
 ⟨some 59, none, .mov (.tmp 58)⟩,
 ⟨some 60, (some (59, true)), .mov (.tmp 13)⟩,
 ⟨some 61, (some (59, true)), .mov (.tmp 9)⟩,
 ⟨some 62, (some (59, true)), .mov (.tmp 10)⟩,
 ⟨some 63, (some (59, true)), .bin .add (.tmp 61) (.tmp 62)⟩,
 ⟨some 64, (some (59, true)), .bin .lss (.tmp 60) (.tmp 63)⟩,
 ⟨some 65, none, .pick (.tmp 59) (.tmp 64) (.const (.bool false))⟩,
 ⟨some 66, none, .mov (.tmp 65)⟩,
 ⟨some 67, (some (66, true)), .fad (.tmp 15) 0⟩,
 ⟨some 68, (some (66, true)), .ld1 (.tmp 67)⟩,
 ⟨some 69, (some (66, true)), .bin .neq (.tmp 68) (.const (.int .i64 8))⟩,
 ⟨some 70, none, .pick (.tmp 66) (.tmp 69) (.const (.bool false))⟩,
 ⟨some 48, none, .mov (.tmp 70)⟩])
 (.cond (.tmp 48)
 .skip
 (.ops [⟨some 71, none, .mov (.tmp 0)⟩,
 ⟨some 72, none, .mov (.tmp 2)⟩,
 ⟨some 73, none, .iad 6 (.tmp 71) (.tmp 72)⟩,
 ⟨some 74, none, .fad (.tmp 73) 0⟩,
 ⟨some 75, none, .ld1 (.tmp 74)⟩,
 ⟨some 76, none, .bin .eql (.tmp 75) (.const (.int .i64 5))⟩,
 ⟨some 77, none, .mov (.tmp 76)⟩,
 ⟨some 78, (some (77, true)), .fad (.tmp 15) 0⟩,
 ⟨some 79, (some (77, true)), .ld1 (.tmp 78)⟩,
 ⟨some 80, (some (77, true)), .call (.func 49) [(.tmp 79)]⟩,
 ⟨some 81, (some (77, true)), .un .not (.tmp 80)⟩,
 ⟨some 82, none, .pick (.tmp 77) (.tmp 81) (.const (.bool false))⟩,
 ⟨some 48, none, .mov (.tmp 82)⟩])))))
 (.cond (.tmp 48)
 (.seq (.ops [⟨some 8, none, .mov (.const (.int .i64 6))⟩])
 .ret)
 (.seq (.ops [⟨some 84, none, .mov (.tmp 13)⟩,
 ⟨some 85, none, .mov (.tmp 9)⟩,
 ⟨some 86, none, .bin .lss (.tmp 84) (.tmp 85)⟩,
 ⟨some 83, none, .mov (.tmp 86)⟩])
 (.cond (.tmp 83)
 (.seq (.ops [⟨some 87, none, .mov (.tmp 12)⟩,
 ⟨some 88, none, .mov (.tmp 87)⟩,
 ⟨some 89, (some (88, false)), .mov (.tmp 11)⟩,
 ⟨some 90, (some (88, false)), .fad (.tmp 15) 2⟩,
 ⟨some 91, (some (88, false)), .ld1 (.tmp 90)⟩,
 ⟨some 92, (some (88, false)), .lkp (.int .i64) (.bool false) (.tmp 89) (.tmp 91) false⟩,
 ⟨some 93, none, .pick (.tmp 88) (.const (.bool true)) (.tmp 92)⟩,
 ⟨some 12, none, .mov (.tmp 93)⟩])
 (.ops [⟨some 94, none, .mov (.tmp 11)⟩,
 ⟨some 95, none, .fad (.tmp 15) 2⟩,
 ⟨some 96, none, .ld1 (.tmp 95)⟩,
 ⟨none, none, .mup (.int .i64) (.tmp 94) (.tmp 96) (.const (.bool true))⟩]))
 .skip))))))))
 (.ops [⟨some 97, none, .bin .add (.tmp 39) (.const (.int .i64 1))⟩,
 ⟨some 39, none, .mov (.tmp 97)⟩])))))))
 (.seq (.seq (.ops [⟨some 98, none, .mov (.tmp 12)⟩])
 (.cond (.tmp 98)
 (.seq (.ops [⟨some 8, none, .mov (.const (.int .i64 8))⟩])
 .ret)
 .skip))
 (.seq (.ops [⟨some 8, none, .mov (.const (.int .i64 0))⟩])
 .ret)))))))))⟩
theorem ok30 : compF Tryz.prog Tryz.f30 = some c30 := by kernel_rfl
def c31 : CF := ⟨27, [.tmp 4],
 (.seq (.ops [⟨some 4, none, .mov (.const (.int .i64 0))⟩])
 (.seq (.ops [⟨some 6, none, .mov (.tmp 0)⟩,
 ⟨some 7, none, .nilck (.tmp 6)⟩,
 ⟨some 8, none, .fad (.tmp 7) 1⟩,
 ⟨some 9, none, .ld1 (.tmp 8)⟩,
 ⟨some 10, none, .mov (.tmp 1)⟩,
 ⟨some 11, none, .lkp (.int .i64) (.slice none 0 0) (.tmp 9) (.tmp 10) false⟩,
 ⟨some 5, none, .mov (.tmp 11)⟩])
 (.seq (.seq (.ops [⟨some 12, none, .mov (.tmp 5)⟩,
 ⟨some 13, none, .lnl (.tmp 12)⟩,
 ⟨some 14, none, .bin .eql (.tmp 13) (.const (.int .i64 0))⟩])
 (.cond (.tmp 14)
 (.seq (.ops [⟨some 4, none, .mov (.const (.int .i64 (-1)))⟩])
 .ret)
 .skip))
 (.seq (.draw [⟨some 15, none, .mov (.tmp 0)⟩,
 ⟨some 16, none, .nilck (.tmp 15)⟩,
 ⟨some 17, none, .fad (.tmp 16) 0⟩,
 ⟨some 18, none, .ld1 (.tmp 17)⟩,
 ⟨some 19, none, .bin .sub (.tmp 18) (.const (.int .i64 1))⟩,
 ⟨some 20, none, .mov (.tmp 5)⟩,
 ⟨some 21, none, .mov (.tmp 5)⟩,
 ⟨some 22, none, .lnl (.tmp 21)⟩,
 ⟨some 23, none, .bin .sub (.tmp 22) (.const (.int .i64 1))⟩,
 ⟨some 24, none, .iad 1 (.tmp 20) (.tmp 23)⟩,
 ⟨some 25, none, .ld1 (.tmp 24)⟩,
 ⟨some 26, none, .bin .sub (.tmp 19) (.tmp 25)⟩,
 ⟨some 4, none, .mov (.tmp 26)⟩] [(0, 5), (1, 5), (2, 5), (3, 5), (4, 5), (0, 6), (1, 6), (2, 6), (3, 6), (4, 6), (5, 6), (0, 7), (1, 7), (2, 7), (3, 7), (4, 7), (5, 7), (0, 8), (1, 8), (2, 8), (3, 8), (4, 8), (5, 8), (0, 9), (1, 9), (2, 9), (3, 9), (4, 9), (0, 10), (1, 10), (2, 10), (3, 10), (4, 10)])
 .ret))))⟩
theorem ok31 : compF Tryz.prog Tryz.f31 = some c31 := by kernel_rfl
def c32 : CF := ⟨28, [],
 (.seq (.draw [⟨some 4, none, .mov (.tmp 0)⟩,
 ⟨some 5, none, .nilck (.tmp 4)⟩,
 ⟨some 6, none, .fad (.tmp 5) 1⟩,
 ⟨some 7, none, .ld1 (.tmp 6)⟩,
 ⟨some 8, none, .mov (.tmp 1)⟩,
 ⟨some 9, none, .mov (.tmp 0)⟩,
 ⟨some 10, none, .nilck (.tmp 9)⟩,
 ⟨some 11, none, .fad (.tmp 10) 1⟩,
 ⟨some 12, none, .ld1 (.tmp 11)⟩,
 ⟨some 13, none, .mov (.tmp 1)⟩,
 ⟨some 14, none, .lkp (.int .i64) (.slice none 0 0) (.tmp 12) (.tmp 13) false⟩,
 ⟨some 15, none, .mov (.tmp 0)⟩,
 ⟨some 16, none, .nilck (.tmp 15)⟩,
 ⟨some 17, none, .fad (.tmp 16) 0⟩,
 ⟨some 18, none, .ld1 (.tmp 17)⟩,
 ⟨some 19, none, .lits [(.int .i64 0)] 1 [(0, 1, (.tmp 18))]⟩,
 ⟨some 20, none, .app 1 8 (.tmp 14) (.tmp 19)⟩,
 ⟨none, none, .mup (.int .i64) (.tmp 7) (.tmp 8) (.tmp 20)⟩] [(0, 4), (1, 4), (2, 4), (3, 4), (0, 5), (1, 5), (2, 5), (3, 5), (4, 5), (0, 6), (1, 6), (2, 6), (3, 6), (4, 6), (0, 7), (1, 7), (2, 7), (3, 7), (4, 7), (0, 8), (1, 8), (2, 8), (3, 8), (4, 8), (0, 9), (1, 9), (2, 9), (3, 9), (4, 9), (5, 9), (6, 9), (7, 9), (8, 9), (0, 10), (1, 10), (2, 10), (3, 10), (4, 10), (0, 11), (1, 11), (2, 11), (3, 11), (4, 11), (5, 11), (6, 11), (7, 11), (8, 11), (9, 11), (10, 11), (0, 12), (1, 12), (2, 12), (3, 12), (4, 12), (5, 12), (6, 12), (7, 12), (8, 12), (9, 12), (10, 12), (0, 13), (1, 13), (2, 13), (3, 13), (4, 13), (5, 13), (6, 13), (7, 13), (8, 13), (9, 13), (10, 13), (0, 14), (1, 14), (2, 14), (3, 14), (4, 14), (5, 14), (6, 14), (7, 14), (8, 14), (9, 14), (10, 14), (0, 15), (1, 15), (2, 15), (3, 15), (4, 15), (5, 15), (6, 15), (7, 15), (8, 15), (9, 15), (10, 15), (0, 16), (1, 16), (2, 16), (3, 16), (4, 16)])
 (.ops [⟨some 21, none, .mov (.tmp 0)⟩,
 ⟨some 22, none, .nilck (.tmp 21)⟩,
 ⟨some 23, none, .fad (.tmp 22) 0⟩,
 ⟨some 24, none, .ld1 (.tmp 23)⟩,
 ⟨some 25, none, .bin .add (.tmp 24) (.const (.int .i64 1))⟩,
 ⟨some 26, none, .nilck (.tmp 21)⟩,
 ⟨some 27, none, .fad (.tmp 26) 0⟩,
 ⟨none, none, .st 1 (.tmp 27) (.tmp 25)⟩]))⟩
theorem ok32 : compF Tryz.prog Tryz.f32 = some c32 := by kernel_rfl
def c33 : CF := ⟨88, [],
 (.seq (.ops [⟨some 18, none, .ld1 (.tmp 1)⟩,
 ⟨some 19, none, .mov (.tmp 0)⟩,
 ⟨some 20, none, .iad 6 (.tmp 18) (.tmp 19)⟩,
 ⟨some 21, none, .ld 6 (.tmp 20)⟩,
 ⟨some 8, none, .newz [(.int .i64 0), (.int .i64 0), (.int .i64 0), (.string ⟨#[]⟩), (.int .i32 0), (.int .i32 0)]⟩,
 ⟨none, none, .st 6 (.tmp 8) (.tmp 21)⟩])
 (.seq (.ops [⟨some 22, none, .ld1 (.tmp 1)⟩,
 ⟨some 23, none, .ld1 (.tmp 2)⟩,
 ⟨some 24, none, .mov (.tmp 0)⟩,
 ⟨some 25, none, .call (.func 24) [(.tmp 22), (.tmp 23), (.tmp 24)]⟩,
 ⟨some 9, none, .mov (.tmp 25)⟩])
 (.seq (.ops [⟨some 10, none, .mov (.const (.slice none 0 0))⟩])
 (.seq (.seq (.ops [⟨some 26, none, .fad (.tmp 8) 0⟩,
 ⟨some 27, none, .ld1 (.tmp 26)⟩])
 (.block 0 (.seq (.ops [⟨some 29, none, .bin .eql (.tmp 27) (.const (.int .i64 7))⟩,
 ⟨some 28, none, .mov (.tmp 29)⟩])
 (.cond (.tmp 28)
 (.seq (.ops [⟨some 30, none, .fad (.tmp 8) 2⟩,
 ⟨some 31, none, .ld1 (.tmp 30)⟩,
 ⟨some 11, none, .mov (.tmp 31)⟩])
 (.seq (.seq (.ops [⟨some 32, none, .ld1 (.tmp 3)⟩])
 (.cond (.tmp 32)
 (.ops [⟨some 33, none, .ld1 (.tmp 4)⟩,
 ⟨some 34, none, .fad (.tmp 8) 2⟩,
 ⟨some 35, none, .ld1 (.tmp 34)⟩,
 ⟨some 36, none, .call (.func 31) [(.tmp 33), (.tmp 35)]⟩,
 ⟨some 11, none, .mov (.tmp 36)⟩])
 .skip))
 (.ops [⟨some 37, none, .ld1 (.tmp 5)⟩,
 ⟨some 38, none, .mov (.tmp 0)⟩,
 ⟨some 39, none, .mov (.tmp 11)⟩,
 ⟨some 40, none, .call (.tmp 37) [(.tmp 38), (.tmp 39)]⟩])))
 (.seq (.seq (.ops [⟨some 42, none, .bin .eql (.tmp 27) (.const (.int .i64 8))⟩,
 ⟨some 41, none, .mov (.tmp 42)⟩])
 (.cond (.tmp 41)
 .skip
 (.ops [⟨some 43, none, .bin .eql (.tmp 27) (.const (.int .i64 11))⟩,
 ⟨some 41, none, .mov (.tmp 43)⟩])))
 (.cond (.tmp 41)
 (.seq (.ops [⟨some 44, none, .fad (.tmp 8) 2⟩,
 ⟨some 45, none, .ld1 (.tmp 44)⟩,
 ⟨some 46, none, .mov (.const (.int .i64 0))⟩])
 (.block 1 (.loop (.seq (.ops [⟨some 47, none, .bin .lss (.tmp 46) (.tmp 45)⟩])
 (.seq (.cond (.tmp 47)
 .skip
 (.exit 1))
 (.seq (.block 2 (.seq (.ops [⟨some 48, none, .mov (.tmp 46)⟩,
 ⟨some 12, none, .mov (.tmp 48)⟩])
 (.seq (.ops [⟨some 49, none, .ld1 (.tmp 4)⟩,
 ⟨some 50, none, .nilck (.tmp 49)⟩,
 ⟨some 51, none, .fad (.tmp 50) 0⟩,
 ⟨some 52, none, .ld1 (.tmp 51)⟩,
 ⟨some 53, none, .bin .sub (.const (.int .i64 (-1))) (.tmp 52)⟩,
 ⟨some 13, none, .mov (.tmp 53)⟩])
 (.seq (.seq (.ops [⟨some 54, none, .ld1 (.tmp 3)⟩])
 (.cond (.tmp 54)
 (.draw [⟨some 55, none, .ld1 (.tmp 1)⟩,
 ⟨some 56, none, .mov (.tmp 9)⟩,
 ⟨some 57, none, .mov (.tmp 12)⟩,
 ⟨some 58, none, .iad 1 (.tmp 56) (.tmp 57)⟩,
 ⟨some 59, none, .ld1 (.tmp 58)⟩,
 ⟨some 60, none, .iad 6 (.tmp 55) (.tmp 59)⟩,
 ⟨some 61, none, .fad (.tmp 60) 2⟩,
 ⟨some 62, none, .ld1 (.tmp 61)⟩,
 ⟨some 13, none, .mov (.tmp 62)⟩] [(0, 1), (0, 2), (1, 2), (0, 3), (0, 4)])
 .skip))
 (.seq (.ops [⟨some 63, none, .mov (.tmp 10)⟩,
 ⟨some 64, none, .mov (.tmp 13)⟩,
 ⟨some 65, none, .lits [(.int .i64 0)] 1 [(0, 1, (.tmp 64))]⟩,
 ⟨some 66, none, .app 1 8 (.tmp 63) (.tmp 65)⟩,
 ⟨some 10, none, .mov (.tmp 66)⟩])
 (.ops [⟨some 67, none, .ld1 (.tmp 4)⟩,
 ⟨some 68, none, .mov (.tmp 13)⟩,
 ⟨some 69, none, .call (.func 32) [(.tmp 67), (.tmp 68)]⟩]))))))
 (.ops [⟨some 70, none, .bin .add (.tmp 46) (.const (.int .i64 1))⟩,
 ⟨some 46, none, .mov (.tmp 70)⟩])))))))
 .skip))))))
 (.seq (.seq (.ops [⟨some 71, none, .mov (.tmp 9)⟩,
 ⟨some 72, none, .lnl (.tmp 71)⟩,
 ⟨some 73, none, .mov (.const (.int .i64 0))⟩])
 (.block 3 (.loop (.seq (.ops [⟨some 74, none, .bin .lss (.tmp 73) (.tmp 72)⟩])
 (.seq (.cond (.tmp 74)
 .skip
 (.exit 3))
 (.seq (.block 4 (.seq (.ops [⟨some 75, none, .iad 1 (.tmp 71) (.tmp 73)⟩,
 ⟨some 76, none, .ld1 (.tmp 75)⟩,
 ⟨some 15, none, .mov (.tmp 76)⟩])
 (.ops [⟨some 77, none, .ld1 (.tmp 6)⟩,
 ⟨some 78, none, .mov (.tmp 15)⟩,
 ⟨some 79, none, .call (.tmp 77) [(.tmp 78)]⟩])))
 (.ops [⟨some 80, none, .bin .add (.tmp 73) (.const (.int .i64 1))⟩,
 ⟨some 73, none, .mov (.tmp 80)⟩])))))))
 (.seq (.ops [⟨some 81, none, .mov (.tmp 10)⟩,
 ⟨some 82, none, .call (.func 34) [(.tmp 81)]⟩])
 (.block 5 (.rangeF (.tmp 82) [83, 84]
 (.ops [⟨some 17, none, .mov (.tmp 84)⟩])
 (.block 6 (.ops [⟨some 85, none, .ld1 (.tmp 4)⟩,
 ⟨some 86, none, .mov (.tmp 17)⟩,
 ⟨some 87, none, .call (.func 35) [(.tmp 85), (.tmp 86)]⟩]))))))))))⟩
theorem ok33 : compF Tryz.prog Tryz.f33 = some c33 := by kernel_rfl
def c34 : CF := ⟨4, [.tmp 2],
 (.seq (.ops [⟨some 1, none, .box (.tmp 0)⟩,
 ⟨some 2, none, .mov (.const .nilFunc)⟩])
 (.seq (.ops [⟨some 3, none, .fn 50 [] [(.tmp 1)]⟩,
 ⟨some 2, none, .mov (.tmp 3)⟩])
 .ret))⟩
theorem ok34 : compF Tryz.prog Tryz.f34 = some c34 := by kernel_rfl
def c35 : CF := ⟨31, [],
 (.seq (.draw [⟨some 4, none, .mov (.tmp 0)⟩,
 ⟨some 5, none, .nilck (.tmp 4)⟩,
 ⟨some 6, none, .fad (.tmp 5) 1⟩,
 ⟨some 7, none, .ld1 (.tmp 6)⟩,
 ⟨some 8, none, .mov (.tmp 1)⟩,
 ⟨some 9, none, .mov (.tmp 0)⟩,
 ⟨some 10, none, .nilck (.tmp 9)⟩,
 ⟨some 11, none, .fad (.tmp 10) 1⟩,
 ⟨some 12, none, .ld1 (.tmp 11)⟩,
 ⟨some 13, none, .mov (.tmp 1)⟩,
 ⟨some 14, none, .lkp (.int .i64) (.slice none 0 0) (.tmp 12) (.tmp 13) false⟩,
 ⟨some 15, none, .mov (.tmp 0)⟩,
 ⟨some 16, none, .nilck (.tmp 15)⟩,
 ⟨some 17, none, .fad (.tmp 16) 1⟩,
 ⟨some 18, none, .ld1 (.tmp 17)⟩,
 ⟨some 19, none, .mov (.tmp 1)⟩,
 ⟨some 20, none, .lkp (.int .i64) (.slice none 0 0) (.tmp 18) (.tmp 19) false⟩,
 ⟨some 21, none, .lnl (.tmp 20)⟩,
 ⟨some 22, none, .bin .sub (.tmp 21) (.const (.int .i64 1))⟩,
 ⟨some 23, none, .sl 1 (.tmp 14) none (some (.tmp 22)) none⟩,
 ⟨none, none, .mup (.int .i64) (.tmp 7) (.tmp 8) (.tmp 23)⟩] [(0, 4), (1, 4), (2, 4), (3, 4), (0, 5), (1, 5), (2, 5), (3, 5), (4, 5), (0, 6), (1, 6), (2, 6), (3, 6), (4, 6), (0, 7), (1, 7), (2, 7), (3, 7), (4, 7), (0, 8), (1, 8), (2, 8), (3, 8), (4, 8), (0, 9), (1, 9), (2, 9), (3, 9), (4, 9), (5, 9), (6, 9), (7, 9), (8, 9), (0, 10), (1, 10), (2, 10), (3, 10), (4, 10), (0, 11), (1, 11), (2, 11), (3, 11), (4, 11), (5, 11), (6, 11), (7, 11), (8, 11), (9, 11), (10, 11), (0, 12), (1, 12), (2, 12), (3, 12), (4, 12), (5, 12), (6, 12), (7, 12), (8, 12), (9, 12), (10, 12), (0, 13), (1, 13), (2, 13), (3, 13), (4, 13), (5, 13), (6, 13), (7, 13), (8, 13), (9, 13), (10, 13), (0, 14), (1, 14), (2, 14), (3, 14), (4, 14), (5, 14), (6, 14), (7, 14), (8, 14), (9, 14), (10, 14), (0, 15), (1, 15), (2, 15), (3, 15), (4, 15), (5, 15), (6, 15), (7, 15), (8, 15), (9, 15), (10, 15), (11, 15), (12, 15), (13, 15), (14, 15), (0, 16), (1, 16), (2, 16), (3, 16), (4, 16), (5, 16), (6, 16), (7, 16), (8, 16), (9, 16), (10, 16), (0, 17), (1, 17), (2, 17), (3, 17), (4, 17), (5, 17), (6, 17), (7, 17), (8, 17), (9, 17), (10, 17), (0, 18), (1, 18), (2, 18), (3, 18), (4, 18), (5, 18), (6, 18), (7, 18), (8, 18), (9, 18), (10, 18), (0, 19), (1, 19), (2, 19), (3, 19), (4, 19)])
 (.ops [⟨some 24, none, .mov (.tmp 0)⟩,
 ⟨some 25, none, .nilck (.tmp 24)⟩,
 ⟨some 26, none, .fad (.tmp 25) 0⟩,
 ⟨some 27, none, .ld1 (.tmp 26)⟩,
 ⟨some 28, none, .bin .sub (.tmp 27) (.const (.int .i64 1))⟩,
 ⟨some 29, none, .nilck (.tmp 24)⟩,
 ⟨some 30, none, .fad (.tmp 29) 0⟩,
 ⟨none, none, .st 1 (.tmp 30) (.tmp 28)⟩]))⟩
theorem ok35 : compF Tryz.prog Tryz.f35 = some c35 := by kernel_rfl
def c36 : CF := ⟨134, [],
 (.seq (.ops [⟨some 8, none, .mov (.const (.bool true))⟩])
 (.seq (.ops [⟨some 9, none, .mov (.const (.bool true))⟩])
 (.block 0 (.loop (.block 1 (.seq (.ops [⟨some 19, none, .mov (.tmp 2)⟩,
 ⟨some 20, none, .mov (.tmp 1)⟩,
 ⟨some 21, none, .bin .sub (.tmp 19) (.tmp 20)⟩,
 ⟨some 10, none, .mov (.tmp 21)⟩])
 (.seq (.seq (.ops [⟨some 22, none, .mov (.tmp 10)⟩,
 ⟨some 23, none, .bin .leq (.tmp 22) (.const (.int .i64 12))⟩])
 (.cond (.tmp 23)
 (.seq (.ops [⟨some 24, none, .mov (.tmp 0)⟩,
 ⟨some 25, none, .mov (.tmp 1)⟩,
 ⟨some 26, none, .mov (.tmp 2)⟩,
 ⟨some 27, none, .call (.func 51) [(.tmp 24), (.tmp 25), (.tmp 26)]⟩])
 .ret)
 .skip))
 (.seq (.seq (.ops [⟨some 28, none, .mov (.tmp 3)⟩,
 ⟨some 29, none, .bin .eql (.tmp 28) (.const (.int .i64 0))⟩])
 (.cond (.tmp 29)
 (.seq (.ops [⟨some 30, none, .mov (.tmp 0)⟩,
 ⟨some 31, none, .mov (.tmp 1)⟩,
 ⟨some 32, none, .mov (.tmp 2)⟩,
 ⟨some 33, none, .call (.func 52) [(.tmp 30), (.tmp 31), (.tmp 32)]⟩])
 .ret)
 .skip))
 (.seq (.seq (.ops [⟨some 34, none, .mov (.tmp 8)⟩,
 ⟨some 35, none, .un .not (.tmp 34)⟩])
 (.cond (.tmp 35)
 (.seq (.ops [⟨some 36, none, .mov (.tmp 0)⟩,
 ⟨some 37, none, .mov (.tmp 1)⟩,
 ⟨some 38, none, .mov (.tmp 2)⟩,
 ⟨some 39, none, .call (.func 53) [(.tmp 36), (.tmp 37), (.tmp 38)]⟩])
 (.ops [⟨some 40, none, .mov (.tmp 3)⟩,
 ⟨some 41, none, .bin .sub (.tmp 40) (.const (.int .i64 1))⟩,
 ⟨some 3, none, .mov (.tmp 41)⟩]))
 .skip))
 (.seq (.ops [⟨some 43, none, .mov (.tmp 0)⟩,
 ⟨some 44, none, .mov (.tmp 1)⟩,
 ⟨some 45, none, .mov (.tmp 2)⟩,
 ⟨some 46, none, .call (.func 54) [(.tmp 43), (.tmp 44), (.tmp 45)]⟩,
 ⟨some 42, none, .mov (.tmp 46)⟩,
 ⟨some 47, none, .ext (.tmp 42) 0⟩,
 ⟨some 48, none, .ext (.tmp 42) 1⟩,
 ⟨some 11, none, .mov (.tmp 47)⟩,
 ⟨some 12, none, .mov (.tmp 48)⟩])
 (.seq (.seq (.ops [⟨some 49, none, .mov (.tmp 12)⟩,
 ⟨some 50, none, .bin .eql (.tmp 49) (.const (.int .i64 2))⟩])
 (.cond (.tmp 50)
 (.seq (.ops [⟨some 51, none, .mov (.tmp 0)⟩,
 ⟨some 52, none, .mov (.tmp 1)⟩,
 ⟨some 53, none, .mov (.tmp 2)⟩,
 ⟨some 54, none, .call (.func 55) [(.tmp 51), (.tmp 52), (.tmp 53)]⟩])
 (.seq (.ops [⟨some 55, none, .mov (.tmp 2)⟩,
 ⟨some 56, none, .bin .sub (.tmp 55) (.const (.int .i64 1))⟩,
 ⟨some 57, none, .mov (.tmp 11)⟩,
 ⟨some 58, none, .mov (.tmp 1)⟩,
 ⟨some 59, none, .bin .sub (.tmp 57) (.tmp 58)⟩,
 ⟨some 60, none, .bin .sub (.tmp 56) (.tmp 59)⟩,
 ⟨some 11, none, .mov (.tmp 60)⟩])
 (.ops [⟨some 12, none, .mov (.const (.int .i64 1))⟩])))
 .skip))
 (.seq (.seq (.ops [⟨some 61, none, .mov (.tmp 8)⟩,
 ⟨some 62, none, .mov (.tmp 61)⟩,
 ⟨some 63, (some (62, true)), .mov (.tmp 9)⟩,
 ⟨some 64, none, .pick (.tmp 62) (.tmp 63) (.const (.bool false))⟩,
 ⟨some 65, none, .mov (.tmp 64)⟩,
 ⟨some 66, (some (65, true)), .mov (.tmp 12)⟩,
 ⟨some 67, (some (65, true)), .bin .eql (.tmp 66) (.const (.int .i64 1))⟩,
 ⟨some 68, none, .pick (.tmp 65) (.tmp 67) (.const (.bool false))⟩])
 (.cond (.tmp 68)
 (.seq (.ops [⟨some 69, none, .mov (.tmp 0)⟩,
 ⟨some 70, none, .mov (.tmp 1)⟩,
 ⟨some 71, none, .mov (.tmp 2)⟩,
 ⟨some 72, none, .call (.func 56) [(.tmp 69), (.tmp 70), (.tmp 71)]⟩])
 (.cond (.tmp 72)
 .ret
 .skip))
 .skip))
 (.seq (.seq (.draw [⟨some 73, none, .mov (.tmp 1)⟩,
 ⟨some 74, none, .bin .gtr (.tmp 73) (.const (.int .i64 0))⟩,
 ⟨some 75, none, .mov (.tmp 74)⟩,
 ⟨some 76, (some (75, true)), .mov (.tmp 0)⟩,
 ⟨some 77, (some (75, true)), .mov (.tmp 1)⟩,
 ⟨some 78, (some (75, true)), .bin .sub (.tmp 77) (.const (.int .i64 1))⟩,
 ⟨some 79, (some (75, true)), .iad 1 (.tmp 76) (.tmp 78)⟩,
 ⟨some 80, (some (75, true)), .ld1 (.tmp 79)⟩,
 ⟨some 81, (some (75, true)), .mov (.tmp 0)⟩,
 ⟨some 82, (some (75, true)), .mov (.tmp 11)⟩,
 ⟨some 83, (some (75, true)), .iad 1 (.tmp 81) (.tmp 82)⟩,
 ⟨some 84, (some (75, true)), .ld1 (.tmp 83)⟩,
 ⟨some 85, (some (75, true)), .call (.func 57) [(.tmp 80), (.tmp 84)]⟩,
 ⟨some 86, (some (75, true)), .un .not (.tmp 85)⟩,
 ⟨some 87, none, .pick (.tmp 75) (.tmp 86) (.const (.bool false))⟩] [(3, 4), (3, 5), (3, 8), (4, 8), (5, 8), (6, 8), (7, 8), (3, 9), (4, 9), (5, 9), (6, 9), (7, 9), (8, 9), (3, 10), (4, 10), (5, 10), (6, 10), (7, 10), (3, 11), (4, 11), (5, 11), (6, 11), (7, 11)])
 (.cond (.tmp 87)
 (.seq (.ops [⟨some 88, none, .mov (.tmp 0)⟩,
 ⟨some 89, none, .mov (.tmp 1)⟩,
 ⟨some 90, none, .mov (.tmp 2)⟩,
 ⟨some 91, none, .mov (.tmp 11)⟩,
 ⟨some 92, none, .call (.func 58) [(.tmp 88), (.tmp 89), (.tmp 90), (.tmp 91)]⟩,
 ⟨some 13, none, .mov (.tmp 92)⟩])
 (.seq (.ops [⟨some 93, none, .mov (.tmp 13)⟩,
 ⟨some 1, none, .mov (.tmp 93)⟩])
 (.exit 1)))
 .skip))
 (.seq (.ops [⟨some 95, none, .mov (.tmp 0)⟩,
 ⟨some 96, none, .mov (.tmp 1)⟩,
 ⟨some 97, none, .mov (.tmp 2)⟩,
 ⟨some 98, none, .mov (.tmp 11)⟩,
 ⟨some 99, none, .call (.func 59) [(.tmp 95), (.tmp 96), (.tmp 97), (.tmp 98)]⟩,
 ⟨some 94, none, .mov (.tmp 99)⟩,
 ⟨some 100, none, .ext (.tmp 94) 0⟩,
 ⟨some 101, none, .ext (.tmp 94) 1⟩,
 ⟨some 14, none, .mov (.tmp 100)⟩,
 ⟨some 15, none, .mov (.tmp 101)⟩])
 (.seq (.ops [⟨some 102, none, .mov (.tmp 15)⟩,
 ⟨some 9, none, .mov (.tmp 102)⟩])
 (.seq (.ops [⟨some 103, none, .mov (.tmp 14)⟩,
 ⟨some 104, none, .mov (.tmp 1)⟩,
 ⟨some 105, none, .bin .sub (.tmp 103) (.tmp 104)⟩,
 ⟨some 106, none, .mov (.tmp 2)⟩,
 ⟨some 107, none, .mov (.tmp 14)⟩,
 ⟨some 108, none, .bin .sub (.tmp 106) (.tmp 107)⟩,
 ⟨some 16, none, .mov (.tmp 105)⟩,
 ⟨some 17, none, .mov (.tmp 108)⟩])
 (.seq (.ops [⟨some 109, none, .mov (.tmp 10)⟩,
 ⟨some 110, none, .bin .quo (.tmp 109) (.const (.int .i64 8))⟩,
 ⟨some 18, none, .mov (.tmp 110)⟩])
 (.seq (.ops [⟨some 111, none, .mov (.tmp 16)⟩,
 ⟨some 112, none, .mov (.tmp 17)⟩,
 ⟨some 113, none, .bin .lss (.tmp 111) (.tmp 112)⟩])
 (.cond (.tmp 113)
 (.seq (.ops [⟨some 114, none, .mov (.tmp 16)⟩,
 ⟨some 115, none, .mov (.tmp 18)⟩,
 ⟨some 116, none, .bin .geq (.tmp 114) (.tmp 115)⟩,
 ⟨some 8, none, .mov (.tmp 116)⟩])
 (.seq (.ops [⟨some 117, none, .mov (.tmp 0)⟩,
 ⟨some 118, none, .mov (.tmp 1)⟩,
 ⟨some 119, none, .mov (.tmp 14)⟩,
 ⟨some 120, none, .mov (.tmp 3)⟩,
 ⟨some 121, none, .call (.func 36) [(.tmp 117), (.tmp 118), (.tmp 119), (.tmp 120)]⟩])
 (.ops [⟨some 122, none, .mov (.tmp 14)⟩,
 ⟨some 123, none, .bin .add (.tmp 122) (.const (.int .i64 1))⟩,
 ⟨some 1, none, .mov (.tmp 123)⟩])))
 (.seq (.ops [⟨some 124, none, .mov (.tmp 17)⟩,
 ⟨some 125, none, .mov (.tmp 18)⟩,
 ⟨some 126, none, .bin .geq (.tmp 124) (.tmp 125)⟩,
 ⟨some 8, none, .mov (.tmp 126)⟩])
 (.seq (.ops [⟨some 127, none, .mov (.tmp 0)⟩,
 ⟨some 128, none, .mov (.tmp 14)⟩,
 ⟨some 129, none, .bin .add (.tmp 128) (.const (.int .i64 1))⟩,
 ⟨some 130, none, .mov (.tmp 2)⟩,
 ⟨some 131, none, .mov (.tmp 3)⟩,
 ⟨some 132, none, .call (.func 36) [(.tmp 127), (.tmp 129), (.tmp 130), (.tmp 131)]⟩])
 (.ops [⟨some 133, none, .mov (.tmp 14)⟩,
 ⟨some 2, none, .mov (.tmp 133)⟩]))))))))))))))))))))))⟩
theorem ok36 : compF Tryz.prog Tryz.f36 = some c36 := by kernel_rfl
def c37 : CF := ⟨8, [.tmp 2],
 (.seq (.ops [⟨some 2, none, .mov (.const (.int .i64 0))⟩])
 (.seq (.cond (.const (.bool false))
 (.seq (.ops [⟨some 3, none, .mov (.tmp 0)⟩,
 ⟨some 4, none, .cvi .u32 (.tmp 3)⟩,
 ⟨some 5, none, .call (.func 60) [(.tmp 4)]⟩,
 ⟨some 2, none, .mov (.tmp 5)⟩])
 .ret)
 .skip)
 (.seq (.ops [⟨some 6, none, .mov (.tmp 0)⟩,
 ⟨some 7, none, .call (.func 61) [(.tmp 6)]⟩,
 ⟨some 2, none, .mov (.tmp 7)⟩])
 .ret)))⟩
theorem ok37 : compF Tryz.prog Tryz.f37 = some c37 := by kernel_rfl
def c38 : CF := ⟨25, [.tmp 5],
 (.seq (.ops [⟨some 5, none, .mov (.const (.int .i64 0))⟩])
 (.seq (.ops [⟨some 7, none, .mov (.tmp 0)⟩,
 ⟨some 8, none, .bin .add (.tmp 7) (.const (.int .i64 1))⟩,
 ⟨some 6, none, .mov (.tmp 8)⟩])
 (.seq (.seq (.ops [⟨some 9, none, .ld1 (.tmp 1)⟩,
 ⟨some 10, none, .mov (.tmp 0)⟩,
 ⟨some 11, none, .iad 6 (.tmp 9) (.tmp 10)⟩,
 ⟨some 12, none, .fad (.tmp 11) 1⟩,
 ⟨some 13, none, .ld1 (.tmp 12)⟩,
 ⟨some 14, none, .mov (.const (.int .i64 0))⟩])
 (.block 0 (.loop (.seq (.ops [⟨some 15, none, .bin .lss (.tmp 14) (.tmp 13)⟩])
 (.seq (.cond (.tmp 15)
 .skip
 (.exit 0))
 (.seq (.block 1 (.ops [⟨some 16, none, .ld1 (.tmp 2)⟩,
 ⟨some 17, none, .mov (.tmp 6)⟩,
 ⟨some 18, none, .call (.tmp 16) [(.tmp 17)]⟩,
 ⟨some 6, none, .mov (.tmp 18)⟩]))
 (.ops [⟨some 19, none, .bin .add (.tmp 14) (.const (.int .i64 1))⟩,
 ⟨some 14, none, .mov (.tmp 19)⟩])))))))
 (.seq (.ops [⟨some 20, none, .ld1 (.tmp 3)⟩,
 ⟨some 21, none, .mov (.tmp 0)⟩,
 ⟨some 22, none, .mov (.tmp 6)⟩,
 ⟨some 23, none, .iad 1 (.tmp 20) (.tmp 21)⟩,
 ⟨none, none, .st 1 (.tmp 23) (.tmp 22)⟩])
 (.seq (.ops [⟨some 24, none, .mov (.tmp 6)⟩,
 ⟨some 5, none, .mov (.tmp 24)⟩])
 .ret)))))⟩
theorem ok38 : compF Tryz.prog Tryz.f38 = some c38 := by kernel_rfl
def c42 : CF := ⟨54, [.tmp 4],
 (.seq (.ops [⟨some 4, none, .mov (.const (.string ⟨#[]⟩))⟩])
 (.seq (.seq (.ops [⟨some 10, none, .mov (.tmp 1)⟩,
 ⟨some 11, none, .bin .eql (.tmp 10) (.const (.int .i64 10))⟩])
 (.cond (.tmp 11)
 (.seq (.seq (.ops [⟨some 12, none, .mov (.tmp 0)⟩,
 ⟨some 13, none, .bin .leq (.const (.int .i64 0)) (.tmp 12)⟩,
 ⟨some 14, none, .mov (.tmp 13)⟩,
 ⟨some 15, (some (14, true)), .mov (.tmp 0)⟩,
 ⟨some 16, (some (14, true)), .bin .lss (.tmp 15) (.const (.int .i64 100))⟩,
 ⟨some 17, none, .pick (.tmp 14) (.tmp 16) (.const (.bool false))⟩])
 (.cond (.tmp 17)
 (.seq (.ops [⟨some 18, none, .mov (.tmp 0)⟩,
 ⟨some 19, none, .call (.func 64) [(.tmp 18)]⟩,
 ⟨some 4, none, .mov (.tmp 19)⟩])
 .ret)
 .skip))
 (.seq (.ops [⟨some 5, none, .newz [(.int .u8 0), (.int .u8 0), (.int .u8 0), (.int .u8 0), (.int .u8 0), (.int .u8 0), (.int .u8 0), (.int .u8 0), (.int .u8 0), (.int .u8 0), (.int .u8 0), (.int .u8 0), (.int .u8 0), (.int .u8 0), (.int .u8 0), (.int .u8 0), (.int .u8 0), (.int .u8 0), (.int .u8 0), (.int .u8 0), (.int .u8 0), (.int .u8 0), (.int .u8 0), (.int .u8 0)]⟩])
 (.seq (.ops [⟨some 20, none, .mov (.tmp 0)⟩,
 ⟨some 21, none, .cvi .u64 (.tmp 20)⟩,
 ⟨some 6, none, .mov (.tmp 21)⟩])
 (.seq (.seq (.ops [⟨some 22, none, .mov (.tmp 0)⟩,
 ⟨some 23, none, .bin .lss (.tmp 22) (.const (.int .i64 0))⟩])
 (.cond (.tmp 23)
 (.ops [⟨some 24, none, .mov (.tmp 6)⟩,
 ⟨some 25, none, .un .neg (.tmp 24)⟩,
 ⟨some 6, none, .mov (.tmp 25)⟩])
 .skip))
 (.seq (.ops [⟨some 26, none, .mov (.tmp 6)⟩,
 ⟨some 27, none, .call (.func 65) [(.tmp 26)]⟩,
 ⟨some 7, none, .mov (.tmp 27)⟩])
 (.seq (.ops [⟨some 28, none, .mov (.tmp 7)⟩,
 ⟨some 29, none, .bin .add (.const (.int .i64 1)) (.tmp 28)⟩,
 ⟨some 30, none, .sla 24 1 (.tmp 5) (some (.const (.int .i64 1))) (some (.tmp 29)) none⟩,
 ⟨some 31, none, .mov (.tmp 6)⟩,
 ⟨some 32, none, .call (.func 66) [(.tmp 30), (.tmp 31)]⟩])
 (.seq (.seq (.ops [⟨some 33, none, .mov (.tmp 0)⟩,
 ⟨some 34, none, .bin .lss (.tmp 33) (.const (.int .i64 0))⟩])
 (.cond (.tmp 34)
 (.seq (.ops [⟨some 35, none, .iaa 24 1 (.tmp 5) (.const (.int .i64 0))⟩,
 ⟨none, none, .st 1 (.tmp 35) (.const (.int .u8 45))⟩])
 (.seq (.ops [⟨some 36, none, .mov (.tmp 7)⟩,
 ⟨some 37, none, .bin .add (.const (.int .i64 1)) (.tmp 36)⟩,
 ⟨some 38, none, .sla 24 1 (.tmp 5) none (some (.tmp 37)) none⟩,
 ⟨some 39, none, .cvt (.tmp 38)⟩,
 ⟨some 4, none, .mov (.tmp 39)⟩])
 .ret))
 .skip))
 (.seq (.ops [⟨some 40, none, .mov (.tmp 7)⟩,
 ⟨some 41, none, .bin .add (.const (.int .i64 1)) (.tmp 40)⟩,
 ⟨some 42, none, .sla 24 1 (.tmp 5) (some (.const (.int .i64 1))) (some (.tmp 41)) none⟩,
 ⟨some 43, none, .cvt (.tmp 42)⟩,
 ⟨some 4, none, .mov (.tmp 43)⟩])
 .ret))))))))
 .skip))
 (.seq (.ops [⟨some 45, none, .mov (.tmp 0)⟩,
 ⟨some 46, none, .cvi .u64 (.tmp 45)⟩,
 ⟨some 47, none, .mov (.tmp 1)⟩,
 ⟨some 48, none, .mov (.tmp 0)⟩,
 ⟨some 49, none, .bin .lss (.tmp 48) (.const (.int .i64 0))⟩,
 ⟨some 50, none, .call (.func 67) [(.const (.slice none 0 0)), (.tmp 46), (.tmp 47), (.tmp 49), (.const (.bool false))]⟩,
 ⟨some 44, none, .mov (.tmp 50)⟩,
 ⟨some 51, none, .ext (.tmp 44) 0⟩,
 ⟨some 52, none, .ext (.tmp 44) 1⟩,
 ⟨some 8, none, .mov (.tmp 51)⟩,
 ⟨some 9, none, .mov (.tmp 52)⟩])
 (.seq (.ops [⟨some 53, none, .mov (.tmp 9)⟩,
 ⟨some 4, none, .mov (.tmp 53)⟩])
 .ret))))⟩
theorem ok42 : compF Tryz.prog Tryz.f42 = some c42 := by kernel_rfl
def c43 : CF := ⟨9, [.tmp 2],
 (.seq (.ops [⟨some 2, none, .mov (.const (.bool false))⟩])
 (.seq (.ops [⟨some 3, none, .mov (.tmp 0)⟩,
 ⟨some 4, none, .bin .lss (.tmp 3) (.const (.int .i64 0))⟩,
 ⟨some 5, none, .mov (.tmp 4)⟩,
 ⟨some 6, (some (5, false)), .mov (.tmp 0)⟩,
 ⟨some 7, (some (5, false)), .bin .gtr (.tmp 6) (.const (.int .i64 1000000))⟩,
 ⟨some 8, none, .pick (.tmp 5) (.const (.bool true)) (.tmp 7)⟩,
 ⟨some 2, none, .mov (.tmp 8)⟩])
 .ret))⟩
theorem ok43 : compF Tryz.prog Tryz.f43 = some c43 := by kernel_rfl
def c44 : CF := ⟨9, [.tmp 4],
 (.seq (.ops [⟨some 4, none, .mov (.const (.bool false))⟩])
 (.seq (.ops [⟨some 5, none, .mov (.tmp 0)⟩,
 ⟨some 6, none, .mov (.tmp 1)⟩,
 ⟨some 7, none, .call (.func 68) [(.tmp 5), (.tmp 6)]⟩,
 ⟨some 8, none, .bin .geq (.tmp 7) (.const (.int .i64 0))⟩,
 ⟨some 4, none, .mov (.tmp 8)⟩])
 .ret))⟩
theorem ok44 : compF Tryz.prog Tryz.f44 = some c44 := by kernel_rfl
def c45 : CF := ⟨7, [.tmp 3],
 (.seq (.ops [⟨some 3, none, .mov (.const (.bool false))⟩])
 (.seq (.ops [⟨some 4, none, .mov (.tmp 0)⟩,
 ⟨some 5, none, .ld1 (.tmp 1)⟩,
 ⟨some 6, none, .bin .geq (.tmp 4) (.tmp 5)⟩,
 ⟨some 3, none, .mov (.tmp 6)⟩])
 .ret))⟩
theorem ok45 : compF Tryz.prog Tryz.f45 = some c45 := by kernel_rfl
def c46 : CF := ⟨8, [.tmp 2],
 (.seq (.ops [⟨some 2, none, .mov (.const (.slice none 0 0))⟩])
 (.seq (.seq (.ops [⟨some 3, none, .mov (.tmp 0)⟩,
 ⟨some 4, none, .eqn 1 false true (.tmp 3) (.const (.slice none 0 0))⟩])
 (.cond (.tmp 4)
 (.seq (.ops [⟨some 2, none, .mov (.const (.slice none 0 0))⟩])
 .ret)
 .skip))
 (.seq (.ops [⟨some 5, none, .lits [] 0 []⟩,
 ⟨some 6, none, .mov (.tmp 0)⟩,
 ⟨some 7, none, .app 1 8 (.tmp 5) (.tmp 6)⟩,
 ⟨some 2, none, .mov (.tmp 7)⟩])
 .ret)))⟩
theorem ok46 : compF Tryz.prog Tryz.f46 = some c46 := by kernel_rfl
def c47 : CF := ⟨89, [],
 (.seq (.ops [⟨some 14, none, .ld1 (.tmp 1)⟩,
 ⟨some 15, none, .mov (.tmp 0)⟩,
 ⟨some 16, none, .iad 6 (.tmp 14) (.tmp 15)⟩,
 ⟨some 17, none, .ld 6 (.tmp 16)⟩,
 ⟨some 9, none, .newz [(.int .i64 0), (.int .i64 0), (.int .i64 0), (.string ⟨#[]⟩), (.int .i32 0), (.int .i32 0)]⟩,
 ⟨none, none, .st 6 (.tmp 9) (.tmp 17)⟩])
 (.seq (.ops [⟨some 10, none, .mov (.const (.slice none 0 0))⟩])
 (.seq (.seq (.ops [⟨some 18, none, .fad (.tmp 9) 0⟩,
 ⟨some 19, none, .ld1 (.tmp 18)⟩])
 (.block 0 (.seq (.ops [⟨some 21, none, .bin .eql (.tmp 19) (.const (.int .i64 7))⟩,
 ⟨some 20, none, .mov (.tmp 21)⟩])
 (.cond (.tmp 20)
 (.seq (.ops [⟨some 22, none, .ld1 (.tmp 2)⟩,
 ⟨some 23, none, .lnl (.tmp 22)⟩,
 ⟨some 24, none, .bin .sub (.tmp 23) (.const (.int .i64 1))⟩,
 ⟨some 25, none, .fad (.tmp 9) 2⟩,
 ⟨some 26, none, .ld1 (.tmp 25)⟩,
 ⟨some 27, none, .bin .sub (.tmp 24) (.tmp 26)⟩,
 ⟨some 11, none, .mov (.tmp 27)⟩])
 (.seq (.seq (.ops [⟨some 28, none, .mov (.tmp 11)⟩,
 ⟨some 29, none, .bin .lss (.tmp 28) (.const (.int .i64 0))⟩])
 (.cond (.tmp 29)
 (.seq (.seq (.ops [⟨some 30, none, .ld1 (.tmp 3)⟩,
 ⟨some 31, none, .bin .lss (.tmp 30) (.const (.int .i64 0))⟩])
 (.cond (.tmp 31)
 (.ops [⟨some 32, none, .mov (.tmp 0)⟩,
 ⟨none, none, .st 1 (.tmp 3) (.tmp 32)⟩])
 .skip))
 .ret)
 .skip))
 (.ops [⟨some 33, none, .ld1 (.tmp 2)⟩,
 ⟨some 34, none, .mov (.tmp 11)⟩,
 ⟨some 35, none, .iad 1 (.tmp 33) (.tmp 34)⟩,
 ⟨some 36, none, .ld1 (.tmp 35)⟩,
 ⟨some 37, none, .fad (.tmp 9) 2⟩,
 ⟨none, none, .st 1 (.tmp 37) (.tmp 36)⟩])))
 (.seq (.seq (.ops [⟨some 39, none, .bin .eql (.tmp 19) (.const (.int .i64 8))⟩,
 ⟨some 38, none, .mov (.tmp 39)⟩])
 (.cond (.tmp 38)
 .skip
 (.ops [⟨some 40, none, .bin .eql (.tmp 19) (.const (.int .i64 11))⟩,
 ⟨some 38, none, .mov (.tmp 40)⟩])))
 (.cond (.tmp 38)
 (.seq (.seq (.ops [⟨some 41, none, .fad (.tmp 9) 2⟩,
 ⟨some 42, none, .ld1 (.tmp 41)⟩,
 ⟨some 43, none, .mov (.const (.int .i64 0))⟩])
 (.block 1 (.loop (.seq (.ops [⟨some 44, none, .bin .lss (.tmp 43) (.tmp 42)⟩])
 (.seq (.cond (.tmp 44)
 .skip
 (.exit 1))
 (.seq (.block 2 (.seq (.draw [⟨some 45, none, .mov (.tmp 10)⟩,
 ⟨some 46, none, .ld1 (.tmp 4)⟩,
 ⟨some 47, none, .agg [(.int .i64 0), (.int .i64 0), (.int .i64 0), (.string ⟨#[]⟩), (.int .i32 0), (.int .i32 0)] [(0, 1, (.const (.int .i64 12))), (2, 1, (.tmp 46))]⟩,
 ⟨some 48, none, .lits [(.int .i64 0), (.int .i64 0), (.int .i64 0), (.string ⟨#[]⟩), (.int .i32 0), (.int .i32 0)] 1 [(0, 6, (.tmp 47))]⟩,
 ⟨some 49, none, .app 6 48 (.tmp 45) (.tmp 48)⟩,
 ⟨some 50, none, .ld1 (.tmp 2)⟩,
 ⟨some 51, none, .ld1 (.tmp 4)⟩,
 ⟨some 52, none, .lits [(.int .i64 0)] 1 [(0, 1, (.tmp 51))]⟩,
 ⟨some 53, none, .app 1 8 (.tmp 50) (.tmp 52)⟩,
 ⟨some 10, none, .mov (.tmp 49)⟩,
 ⟨none, none, .st 1 (.tmp 2) (.tmp 53)⟩] [(0, 1), (0, 2), (0, 3), (0, 5), (1, 5), (2, 5), (3, 5), (4, 5), (0, 6), (1, 6), (2, 6), (3, 6), (4, 6), (5, 6), (0, 7), (1, 7), (2, 7), (3, 7), (4, 7), (5, 7)])
 (.ops [⟨some 54, none, .ld1 (.tmp 4)⟩,
 ⟨some 55, none, .bin .add (.tmp 54) (.const (.int .i64 1))⟩,
 ⟨none, none, .st 1 (.tmp 4) (.tmp 55)⟩])))
 (.ops [⟨some 56, none, .bin .add (.tmp 43) (.const (.int .i64 1))⟩,
 ⟨some 43, none, .mov (.tmp 56)⟩])))))))
 (.ops [⟨some 57, none, .fad (.tmp 9) 1⟩,
 ⟨some 58, none, .ld1 (.tmp 57)⟩,
 ⟨some 59, none, .mov (.tmp 10)⟩,
 ⟨some 60, none, .lnl (.tmp 59)⟩,
 ⟨some 61, none, .bin .add (.tmp 58) (.tmp 60)⟩,
 ⟨some 62, none, .fad (.tmp 9) 1⟩,
 ⟨none, none, .st 1 (.tmp 62) (.tmp 61)⟩]))
 .skip))))))
 (.seq (.ops [⟨some 63, none, .ld1 (.tmp 5)⟩,
 ⟨some 64, none, .ld 6 (.tmp 9)⟩,
 ⟨some 65, none, .lits [(.int .i64 0), (.int .i64 0), (.int .i64 0), (.string ⟨#[]⟩), (.int .i32 0), (.int .i32 0)] 1 [(0, 6, (.tmp 64))]⟩,
 ⟨some 66, none, .app 6 48 (.tmp 63) (.tmp 65)⟩,
 ⟨some 67, none, .mov (.tmp 10)⟩,
 ⟨some 68, none, .app 6 48 (.tmp 66) (.tmp 67)⟩,
 ⟨none, none, .st 1 (.tmp 5) (.tmp 68)⟩])
 (.seq (.seq (.ops [⟨some 69, none, .ld1 (.tmp 1)⟩,
 ⟨some 70, none, .ld1 (.tmp 6)⟩,
 ⟨some 71, none, .mov (.tmp 0)⟩,
 ⟨some 72, none, .call (.func 24) [(.tmp 69), (.tmp 70), (.tmp 71)]⟩,
 ⟨some 73, none, .lnl (.tmp 72)⟩,
 ⟨some 74, none, .mov (.const (.int .i64 0))⟩])
 (.block 3 (.loop (.seq (.ops [⟨some 75, none, .bin .lss (.tmp 74) (.tmp 73)⟩])
 (.seq (.cond (.tmp 75)
 .skip
 (.exit 3))
 (.seq (.block 4 (.seq (.ops [⟨some 76, none, .iad 1 (.tmp 72) (.tmp 74)⟩,
 ⟨some 77, none, .ld1 (.tmp 76)⟩,
 ⟨some 13, none, .mov (.tmp 77)⟩])
 (.ops [⟨some 78, none, .ld1 (.tmp 7)⟩,
 ⟨some 79, none, .mov (.tmp 13)⟩,
 ⟨some 80, none, .call (.tmp 78) [(.tmp 79)]⟩])))
 (.ops [⟨some 81, none, .bin .add (.tmp 74) (.const (.int .i64 1))⟩,
 ⟨some 74, none, .mov (.tmp 81)⟩])))))))
 (.ops [⟨some 82, none, .ld1 (.tmp 2)⟩,
 ⟨some 83, none, .ld1 (.tmp 2)⟩,
 ⟨some 84, none, .lnl (.tmp 83)⟩,
 ⟨some 85, none, .mov (.tmp 10)⟩,
 ⟨some 86, none, .lnl (.tmp 85)⟩,
 ⟨some 87, none, .bin .sub (.tmp 84) (.tmp 86)⟩,
 ⟨some 88, none, .sl 1 (.tmp 82) none (some (.tmp 87)) none⟩,
 ⟨none, none, .st 1 (.tmp 2) (.tmp 88)⟩]))))))⟩
theorem ok47 : compF Tryz.prog Tryz.f47 = some c47 := by kernel_rfl
def c48 : CF := ⟨57, [.tmp 2],
 (.seq (.ops [⟨some 2, none, .mov (.const (.bool false))⟩])
 (.seq (.seq (.ops [⟨some 10, none, .mov (.tmp 0)⟩,
 ⟨some 11, none, .bin .eql (.tmp 10) (.const (.string ⟨#[]⟩))⟩,
 ⟨some 12, none, .mov (.tmp 11)⟩,
 ⟨some 13, (some (12, false)), .mov (.tmp 0)⟩,
 ⟨some 14, (some (12, false)), .lns (.tmp 13)⟩,
 ⟨some 15, (some (12, false)), .bin .gtr (.tmp 14) (.const (.int .i64 24))⟩,
 ⟨some 16, none, .pick (.tmp 12) (.const (.bool true)) (.tmp 15)⟩])
 (.cond (.tmp 16)
 (.seq (.ops [⟨some 2, none, .mov (.const (.bool false))⟩])
 .ret)
 .skip))
 (.seq (.ops [⟨some 17, none, .mov (.tmp 0)⟩,
 ⟨some 18, none, .call (.func 70) [(.tmp 17), (.const (.string ⟨#[43]⟩))]⟩,
 ⟨some 19, none, .call (.func 70) [(.tmp 18), (.const (.string ⟨#[45]⟩))]⟩,
 ⟨some 20, none, .call (.func 69) [(.tmp 19), (.const (.string ⟨#[48, 49, 50, 51, 52, 53, 54, 55, 56, 57]⟩))]⟩,
 ⟨some 3, none, .mov (.tmp 20)⟩])
 (.seq (.seq (.ops [⟨some 21, none, .mov (.tmp 3)⟩,
 ⟨some 22, none, .bin .eql (.tmp 21) (.const (.string ⟨#[]⟩))⟩,
 ⟨some 23, none, .mov (.tmp 22)⟩,
 ⟨some 24, (some (23, true)), .mov (.tmp 0)⟩,
 ⟨some 25, (some (23, true)), .call (.func 71) [(.tmp 24), (.const (.string ⟨#[48, 49, 50, 51, 52, 53, 54, 55, 56, 57]⟩))]⟩,
 ⟨some 26, none, .pick (.tmp 23) (.tmp 25) (.const (.bool false))⟩,
 ⟨some 27, none, .mov (.tmp 26)⟩,
 ⟨some 28, (some (27, true)), .mov (.tmp 0)⟩,
 ⟨some 29, (some (27, true)), .call (.func 72) [(.tmp 28), (.const (.string ⟨#[43, 45]⟩))]⟩,
 ⟨some 30, (some (27, true)), .un .not (.tmp 29)⟩,
 ⟨some 31, none, .pick (.tmp 27) (.tmp 30) (.const (.bool false))⟩])
 (.cond (.tmp 31)
 (.seq (.ops [⟨some 2, none, .mov (.const (.bool false))⟩])
 .ret)
 .skip))
 (.seq (.ops [⟨some 33, none, .mov (.tmp 0)⟩,
 ⟨some 34, none, .cvb (.tmp 33)⟩,
 ⟨some 35, none, .call (.func 73) [(.tmp 34)]⟩,
 ⟨some 32, none, .mov (.tmp 35)⟩,
 ⟨some 36, none, .ext (.tmp 32) 0⟩,
 ⟨some 37, none, .ext (.tmp 32) 1⟩,
 ⟨some 4, none, .mov (.tmp 36)⟩,
 ⟨some 5, none, .mov (.tmp 37)⟩])
 (.seq (.seq (.ops [⟨some 38, none, .mov (.tmp 5)⟩,
 ⟨some 39, none, .bin .neq (.tmp 38) (.const (.int .i64 0))⟩])
 (.cond (.tmp 39)
 (.seq (.ops [⟨some 2, none, .mov (.const (.bool false))⟩])
 .ret)
 .skip))
 (.seq (.seq (.ops [⟨some 40, none, .mov (.tmp 4)⟩,
 ⟨some 41, none, .lnl (.tmp 40)⟩,
 ⟨some 42, none, .mov (.const (.int .i64 0))⟩])
 (.block 0 (.loop (.seq (.ops [⟨some 43, none, .bin .lss (.tmp 42) (.tmp 41)⟩])
 (.seq (.cond (.tmp 43)
 .skip
 (.exit 0))
 (.seq (.block 1 (.seq (.ops [⟨some 44, none, .iad 1 (.tmp 40) (.tmp 42)⟩,
 ⟨some 45, none, .ld1 (.tmp 44)⟩,
 ⟨some 7, none, .mov (.tmp 45)⟩])
 (.seq (.ops [⟨some 47, none, .mov (.tmp 7)⟩,
 ⟨some 48, none, .call (.func 74) [(.tmp 47)]⟩,
 ⟨some 46, none, .mov (.tmp 48)⟩,
 ⟨some 49, none, .ext (.tmp 46) 0⟩,
 ⟨some 50, none, .ext (.tmp 46) 1⟩,
 ⟨some 8, none, .mov (.tmp 49)⟩,
 ⟨some 9, none, .mov (.tmp 50)⟩])
 (.seq (.ops [⟨some 51, none, .mov (.tmp 8)⟩])
 (.block 2 (.seq (.seq (.ops [⟨some 53, none, .bin .eql (.tmp 51) (.const (.int .i64 9))⟩,
 ⟨some 52, none, .mov (.tmp 53)⟩])
 (.cond (.tmp 52)
 .skip
 (.seq (.ops [⟨some 54, none, .bin .eql (.tmp 51) (.const (.int .i64 7))⟩,
 ⟨some 52, none, .mov (.tmp 54)⟩])
 (.cond (.tmp 52)
 .skip
 (.ops [⟨some 55, none, .bin .eql (.tmp 51) (.const (.int .i64 8))⟩,
 ⟨some 52, none, .mov (.tmp 55)⟩])))))
 (.cond (.tmp 52)
 .skip
 (.seq (.ops [⟨some 2, none, .mov (.const (.bool false))⟩])
 .ret))))))))
 (.ops [⟨some 56, none, .bin .add (.tmp 42) (.const (.int .i64 1))⟩,
 ⟨some 42, none, .mov (.tmp 56)⟩])))))))
 (.seq (.ops [⟨some 2, none, .mov (.const (.bool true))⟩])
 .ret))))))))⟩
theorem ok48 : compF Tryz.prog Tryz.f48 = some c48 := by kernel_rfl
def c49 : CF := ⟨13, [.tmp 2],
 (.seq (.ops [⟨some 2, none, .mov (.const (.bool false))⟩])
 (.seq (.ops [⟨some 3, none, .mov (.tmp 0)⟩,
 ⟨some 4, none, .bin .geq (.tmp 3) (.const (.int .i64 1))⟩,
 ⟨some 5, none, .mov (.tmp 4)⟩,
 ⟨some 6, (some (5, true)), .mov (.tmp 0)⟩,
 ⟨some 7, (some (5, true)), .bin .leq (.tmp 6) (.const (.int .i64 6))⟩,
 ⟨some 8, none, .pick (.tmp 5) (.tmp 7) (.const (.bool false))⟩,
 ⟨some 9, none, .mov (.tmp 8)⟩,
 ⟨some 10, (some (9, false)), .mov (.tmp 0)⟩,
 ⟨some 11, (some (9, false)), .bin .eql (.tmp 10) (.const (.int .i64 8))⟩,
 ⟨some 12, none, .pick (.tmp 9) (.const (.bool true)) (.tmp 11)⟩,
 ⟨some 2, none, .mov (.tmp 12)⟩])
 .ret))⟩
theorem ok49 : compF Tryz.prog Tryz.f49 = some c49 := by kernel_rfl
def c50 : CF := ⟨19, [],
 (.seq (.ops [⟨some 4, none, .ld1 (.tmp 1)⟩,
 ⟨some 5, none, .lnl (.tmp 4)⟩,
 ⟨some 6, none, .bin .sub (.tmp 5) (.const (.int .i64 1))⟩,
 ⟨some 3, none, .mov (.tmp 6)⟩])
 (.block 0 (.loop (.seq (.seq (.ops [⟨some 7, none, .mov (.tmp 3)⟩,
 ⟨some 8, none, .bin .geq (.tmp 7) (.const (.int .i64 0))⟩])
 (.cond (.tmp 8)
 .skip
 (.exit 0)))
 (.seq (.block 1 (.seq (.ops [⟨some 11, none, .mov (.tmp 0)⟩,
 ⟨some 12, none, .mov (.tmp 3)⟩,
 ⟨some 13, none, .ld1 (.tmp 1)⟩,
 ⟨some 14, none, .mov (.tmp 3)⟩,
 ⟨some 15, none, .iad 1 (.tmp 13) (.tmp 14)⟩,
 ⟨some 16, none, .ld1 (.tmp 15)⟩,
 ⟨some 17, none, .call (.tmp 11) [(.tmp 12), (.tmp 16)]⟩,
 ⟨some 18, none, .un .not (.tmp 17)⟩])
 (.cond (.tmp 18)
 .ret
 .skip)))
 (.ops [⟨some 9, none, .mov (.tmp 3)⟩,
 ⟨some 10, none, .bin .sub (.tmp 9) (.const (.int .i64 1))⟩,
 ⟨some 3, none, .mov (.tmp 10)⟩]))))))⟩
theorem ok50 : compF Tryz.prog Tryz.f50 = some c50 := by kernel_rfl
def c51 : CF := ⟨49, [],
 (.seq (.ops [⟨some 8, none, .mov (.tmp 1)⟩,
 ⟨some 9, none, .bin .add (.tmp 8) (.const (.int .i64 1))⟩,
 ⟨some 6, none, .mov (.tmp 9)⟩])
 (.block 0 (.loop (.seq (.seq (.ops [⟨some 10, none, .mov (.tmp 6)⟩,
 ⟨some 11, none, .mov (.tmp 2)⟩,
 ⟨some 12, none, .bin .lss (.tmp 10) (.tmp 11)⟩])
 (.cond (.tmp 12)
 .skip
 (.exit 0)))
 (.seq (.block 1 (.seq (.ops [⟨some 15, none, .mov (.tmp 6)⟩,
 ⟨some 7, none, .mov (.tmp 15)⟩])
 (.block 2 (.loop (.seq (.seq (.draw [⟨some 16, none, .mov (.tmp 7)⟩,
 ⟨some 17, none, .mov (.tmp 1)⟩,
 ⟨some 18, none, .bin .gtr (.tmp 16) (.tmp 17)⟩,
 ⟨some 19, none, .mov (.tmp 18)⟩,
 ⟨some 20, (some (19, true)), .mov (.tmp 0)⟩,
 ⟨some 21, (some (19, true)), .mov (.tmp 7)⟩,
 ⟨some 22, (some (19, true)), .iad 1 (.tmp 20) (.tmp 21)⟩,
 ⟨some 23, (some (19, true)), .ld1 (.tmp 22)⟩,
 ⟨some 24, (some (19, true)), .mov (.tmp 0)⟩,
 ⟨some 25, (some (19, true)), .mov (.tmp 7)⟩,
 ⟨some 26, (some (19, true)), .bin .sub (.tmp 25) (.const (.int .i64 1))⟩,
 ⟨some 27, (some (19, true)), .iad 1 (.tmp 24) (.tmp 26)⟩,
 ⟨some 28, (some (19, true)), .ld1 (.tmp 27)⟩,
 ⟨some 29, (some (19, true)), .call (.func 57) [(.tmp 23), (.tmp 28)]⟩,
 ⟨some 30, none, .pick (.tmp 19) (.tmp 29) (.const (.bool false))⟩] [(0, 1), (4, 5), (4, 8), (5, 8), (6, 8), (7, 8), (4, 9), (5, 9), (6, 9), (7, 9), (8, 9), (4, 10), (5, 10), (6, 10), (7, 10), (8, 10), (4, 11), (5, 11), (6, 11), (7, 11), (4, 12), (5, 12), (6, 12), (7, 12)])
 (.cond (.tmp 30)
 .skip
 (.exit 2)))
 (.seq (.block 3 (.draw [⟨some 33, none, .mov (.tmp 0)⟩,
 ⟨some 34, none, .mov (.tmp 7)⟩,
 ⟨some 35, none, .mov (.tmp 0)⟩,
 ⟨some 36, none, .mov (.tmp 7)⟩,
 ⟨some 37, none, .bin .sub (.tmp 36) (.const (.int .i64 1))⟩,
 ⟨some 38, none, .mov (.tmp 0)⟩,
 ⟨some 39, none, .mov (.tmp 7)⟩,
 ⟨some 40, none, .bin .sub (.tmp 39) (.const (.int .i64 1))⟩,
 ⟨some 41, none, .iad 1 (.tmp 38) (.tmp 40)⟩,
 ⟨some 42, none, .ld1 (.tmp 41)⟩,
 ⟨some 43, none, .mov (.tmp 0)⟩,
 ⟨some 44, none, .mov (.tmp 7)⟩,
 ⟨some 45, none, .iad 1 (.tmp 43) (.tmp 44)⟩,
 ⟨some 46, none, .ld1 (.tmp 45)⟩,
 ⟨some 47, none, .iad 1 (.tmp 33) (.tmp 34)⟩,
 ⟨none, none, .st 1 (.tmp 47) (.tmp 42)⟩,
 ⟨some 48, none, .iad 1 (.tmp 35) (.tmp 37)⟩,
 ⟨none, none, .st 1 (.tmp 48) (.tmp 46)⟩] [(0, 1), (0, 2), (1, 2), (0, 3), (1, 3), (2, 3), (0, 4), (1, 4), (2, 4), (0, 5), (1, 5), (2, 5), (3, 5), (4, 5), (0, 6), (1, 6), (2, 6), (3, 6), (4, 6), (5, 6), (0, 7), (1, 7), (2, 7), (3, 7), (4, 7), (5, 7), (0, 8), (1, 8), (2, 8), (3, 8), (4, 8), (0, 9), (1, 9), (2, 9), (3, 9), (4, 9), (0, 10), (1, 10), (2, 10), (3, 10), (4, 10), (5, 10), (6, 10), (7, 10), (8, 10), (9, 10), (0, 11), (1, 11), (2, 11), (3, 11), (4, 11), (5, 11), (6, 11), (7, 11), (8, 11), (9, 11), (10, 11), (0, 12), (1, 12), (2, 12), (3, 12), (4, 12), (5, 12), (6, 12), (7, 12), (8, 12), (9, 12), (0, 13), (1, 13), (2, 13), (3, 13), (4, 13), (5, 13), (6, 13), (7, 13), (8, 13), (9, 13), (2, 14), (3, 14), (4, 14), (2, 15), (3, 15), (4, 15)]))
 (.ops [⟨some 31, none, .mov (.tmp 7)⟩,
 ⟨some 32, none, .bin .sub (.tmp 31) (.const (.int .i64 1))⟩,
 ⟨some 7, none, .mov (.tmp 32)⟩])))))))
 (.ops [⟨some 13, none, .mov (.tmp 6)⟩,
 ⟨some 14, none, .bin .add (.tmp 13) (.const (.int .i64 1))⟩,
 ⟨some 6, none, .mov (.tmp 14)⟩]))))))⟩
theorem ok51 : compF Tryz.prog Tryz.f51 = some c51 := by kernel_rfl
def c52 : CF := ⟨56, [],
 (.seq (.ops [⟨some 11, none, .mov (.tmp 1)⟩,
 ⟨some 6, none, .mov (.tmp 11)⟩])
 (.seq (.ops [⟨some 7, none, .mov (.const (.int .i64 0))⟩])
 (.seq (.ops [⟨some 12, none, .mov (.tmp 2)⟩,
 ⟨some 13, none, .mov (.tmp 1)⟩,
 ⟨some 14, none, .bin .sub (.tmp 12) (.tmp 13)⟩,
 ⟨some 8, none, .mov (.tmp 14)⟩])
 (.seq (.seq (.ops [⟨some 15, none, .mov (.tmp 8)⟩,
 ⟨some 16, none, .bin .sub (.tmp 15) (.const (.int .i64 1))⟩,
 ⟨some 17, none, .bin .quo (.tmp 16) (.const (.int .i64 2))⟩,
 ⟨some 9, none, .mov (.tmp 17)⟩])
 (.block 0 (.loop (.seq (.seq (.ops [⟨some 18, none, .mov (.tmp 9)⟩,
 ⟨some 19, none, .bin .geq (.tmp 18) (.const (.int .i64 0))⟩])
 (.cond (.tmp 19)
 .skip
 (.exit 0)))
 (.seq (.block 1 (.ops [⟨some 22, none, .mov (.tmp 0)⟩,
 ⟨some 23, none, .mov (.tmp 9)⟩,
 ⟨some 24, none, .mov (.tmp 8)⟩,
 ⟨some 25, none, .mov (.tmp 6)⟩,
 ⟨some 26, none, .call (.func 75) [(.tmp 22), (.tmp 23), (.tmp 24), (.tmp 25)]⟩]))
 (.ops [⟨some 20, none, .mov (.tmp 9)⟩,
 ⟨some 21, none, .bin .sub (.tmp 20) (.const (.int .i64 1))⟩,
 ⟨some 9, none, .mov (.tmp 21)⟩]))))))
 (.seq (.ops [⟨some 27, none, .mov (.tmp 8)⟩,
 ⟨some 28, none, .bin .sub (.tmp 27) (.const (.int .i64 1))⟩,
 ⟨some 10, none, .mov (.tmp 28)⟩])
 (.block 2 (.loop (.seq (.seq (.ops [⟨some 29, none, .mov (.tmp 10)⟩,
 ⟨some 30, none, .bin .geq (.tmp 29) (.const (.int .i64 0))⟩])
 (.cond (.tmp 30)
 .skip
 (.exit 2)))
 (.seq (.block 3 (.seq (.draw [⟨some 33, none, .mov (.tmp 0)⟩,
 ⟨some 34, none, .mov (.tmp 6)⟩,
 ⟨some 35, none, .mov (.tmp 0)⟩,
 ⟨some 36, none, .mov (.tmp 6)⟩,
 ⟨some 37, none, .mov (.tmp 10)⟩,
 ⟨some 38, none, .bin .add (.tmp 36) (.tmp 37)⟩,
 ⟨some 39, none, .mov (.tmp 0)⟩,
 ⟨some 40, none, .mov (.tmp 6)⟩,
 ⟨some 41, none, .mov (.tmp 10)⟩,
 ⟨some 42, none, .bin .add (.tmp 40) (.tmp 41)⟩,
 ⟨some 43, none, .iad 1 (.tmp 39) (.tmp 42)⟩,
 ⟨some 44, none, .ld1 (.tmp 43)⟩,
 ⟨some 45, none, .mov (.tmp 0)⟩,
 ⟨some 46, none, .mov (.tmp 6)⟩,
 ⟨some 47, none, .iad 1 (.tmp 45) (.tmp 46)⟩,
 ⟨some 48, none, .ld1 (.tmp 47)⟩,
 ⟨some 49, none, .iad 1 (.tmp 33) (.tmp 34)⟩,
 ⟨none, none, .st 1 (.tmp 49) (.tmp 44)⟩,
 ⟨some 50, none, .iad 1 (.tmp 35) (.tmp 38)⟩,
 ⟨none, none, .st 1 (.tmp 50) (.tmp 48)⟩] [(0, 1), (0, 2), (1, 2), (0, 3), (1, 3), (2, 3), (0, 4), (1, 4), (2, 4), (3, 4), (0, 5), (1, 5), (2, 5), (0, 6), (1, 6), (2, 6), (3, 6), (4, 6), (5, 6), (0, 7), (1, 7), (2, 7), (3, 7), (4, 7), (5, 7), (6, 7), (0, 8), (1, 8), (2, 8), (3, 8), (4, 8), (5, 8), (6, 8), (7, 8), (0, 9), (1, 9), (2, 9), (3, 9), (4, 9), (5, 9), (6, 9), (0, 10), (1, 10), (2, 10), (3, 10), (4, 10), (5, 10), (0, 11), (1, 11), (2, 11), (3, 11), (4, 11), (5, 11), (0, 12), (1, 12), (2, 12), (3, 12), (4, 12), (5, 12), (6, 12), (7, 12), (8, 12), (9, 12), (10, 12), (11, 12), (0, 13), (1, 13), (2, 13), (3, 13), (4, 13), (5, 13), (6, 13), (7, 13), (8, 13), (9, 13), (10, 13), (11, 13), (12, 13), (0, 14), (1, 14), (2, 14), (3, 14), (4, 14), (5, 14), (6, 14), (7, 14), (8, 14), (9, 14), (10, 14), (11, 14), (0, 15), (1, 15), (2, 15), (3, 15), (4, 15), (5, 15), (6, 15), (7, 15), (8, 15), (9, 15), (10, 15), (11, 15), (2, 16), (3, 16), (4, 16), (5, 16), (2, 17), (3, 17), (4, 17), (5, 17)])
 (.ops [⟨some 51, none, .mov (.tmp 0)⟩,
 ⟨some 52, none, .mov (.tmp 7)⟩,
 ⟨some 53, none, .mov (.tmp 10)⟩,
 ⟨some 54, none, .mov (.tmp 6)⟩,
 ⟨some 55, none, .call (.func 75) [(.tmp 51), (.tmp 52), (.tmp 53), (.tmp 54)]⟩])))
 (.ops [⟨some 31, none, .mov (.tmp 10)⟩,
 ⟨some 32, none, .bin .sub (.tmp 31) (.const (.int .i64 1))⟩,
 ⟨some 10, none, .mov (.tmp 32)⟩]))))))))))⟩
theorem ok52 : compF Tryz.prog Tryz.f52 = some c52 := by kernel_rfl
def c53 : CF := ⟨65, [],
 (.seq (.ops [⟨some 11, none, .mov (.tmp 2)⟩,
 ⟨some 12, none, .mov (.tmp 1)⟩,
 ⟨some 13, none, .bin .sub (.tmp 11) (.tmp 12)⟩,
 ⟨some 6, none, .mov (.tmp 13)⟩])
 (.seq (.ops [⟨some 14, none, .mov (.tmp 6)⟩,
 ⟨some 15, none, .bin .geq (.tmp 14) (.const (.int .i64 8))⟩])
 (.cond (.tmp 15)
 (.seq (.ops [⟨some 16, none, .mov (.tmp 6)⟩,
 ⟨some 17, none, .cvi .u64 (.tmp 16)⟩,
 ⟨some 7, none, .newz [(.int .u64 0)]⟩,
 ⟨none, none, .st 1 (.tmp 7) (.tmp 17)⟩])
 (.seq (.ops [⟨some 18, none, .mov (.tmp 6)⟩,
 ⟨some 19, none, .call (.func 76) [(.tmp 18)]⟩,
 ⟨some 8, none, .mov (.tmp 19)⟩])
 (.seq (.ops [⟨some 20, none, .mov (.tmp 1)⟩,
 ⟨some 21, none, .mov (.tmp 6)⟩,
 ⟨some 22, none, .bin .quo (.tmp 21) (.const (.int .i64 4))⟩,
 ⟨some 23, none, .bin .mul (.tmp 22) (.const (.int .i64 2))⟩,
 ⟨some 24, none, .bin .add (.tmp 20) (.tmp 23)⟩,
 ⟨some 25, none, .bin .sub (.tmp 24) (.const (.int .i64 1))⟩,
 ⟨some 9, none, .mov (.tmp 25)⟩])
 (.block 0 (.loop (.seq (.seq (.ops [⟨some 26, none, .mov (.tmp 9)⟩,
 ⟨some 27, none, .mov (.tmp 1)⟩,
 ⟨some 28, none, .mov (.tmp 6)⟩,
 ⟨some 29, none, .bin .quo (.tmp 28) (.const (.int .i64 4))⟩,
 ⟨some 30, none, .bin .mul (.tmp 29) (.const (.int .i64 2))⟩,
 ⟨some 31, none, .bin .add (.tmp 27) (.tmp 30)⟩,
 ⟨some 32, none, .bin .add (.tmp 31) (.const (.int .i64 1))⟩,
 ⟨some 33, none, .bin .leq (.tmp 26) (.tmp 32)⟩])
 (.cond (.tmp 33)
 .skip
 (.exit 0)))
 (.seq (.block 1 (.seq (.ops [⟨some 36, none, .call (.func 77) [(.tmp 7)]⟩,
 ⟨some 37, none, .mov (.tmp 8)⟩,
 ⟨some 38, none, .bin .sub (.tmp 37) (.const (.int .u64 1))⟩,
 ⟨some 39, none, .bin .and (.tmp 36) (.tmp 38)⟩,
 ⟨some 40, none, .cvi .i64 (.tmp 39)⟩,
 ⟨some 10, none, .mov (.tmp 40)⟩])
 (.seq (.seq (.ops [⟨some 41, none, .mov (.tmp 10)⟩,
 ⟨some 42, none, .mov (.tmp 6)⟩,
 ⟨some 43, none, .bin .geq (.tmp 41) (.tmp 42)⟩])
 (.cond (.tmp 43)
 (.ops [⟨some 44, none, .mov (.tmp 10)⟩,
 ⟨some 45, none, .mov (.tmp 6)⟩,
 ⟨some 46, none, .bin .sub (.tmp 44) (.tmp 45)⟩,
 ⟨some 10, none, .mov (.tmp 46)⟩])
 .skip))
 (.draw [⟨some 47, none, .mov (.tmp 0)⟩,
 ⟨some 48, none, .mov (.tmp 9)⟩,
 ⟨some 49, none, .mov (.tmp 0)⟩,
 ⟨some 50, none, .mov (.tmp 1)⟩,
 ⟨some 51, none, .mov (.tmp 10)⟩,
 ⟨some 52, none, .bin .add (.tmp 50) (.tmp 51)⟩,
 ⟨some 53, none, .mov (.tmp 0)⟩,
 ⟨some 54, none, .mov (.tmp 1)⟩,
 ⟨some 55, none, .mov (.tmp 10)⟩,
 ⟨some 56, none, .bin .add (.tmp 54) (.tmp 55)⟩,
 ⟨some 57, none, .iad 1 (.tmp 53) (.tmp 56)⟩,
 ⟨some 58, none, .ld1 (.tmp 57)⟩,
 ⟨some 59, none, .mov (.tmp 0)⟩,
 ⟨some 60, none, .mov (.tmp 9)⟩,
 ⟨some 61, none, .iad 1 (.tmp 59) (.tmp 60)⟩,
 ⟨some 62, none, .ld1 (.tmp 61)⟩,
 ⟨some 63, none, .iad 1 (.tmp 47) (.tmp 48)⟩,
 ⟨none, none, .st 1 (.tmp 63) (.tmp 58)⟩,
 ⟨some 64, none, .iad 1 (.tmp 49) (.tmp 52)⟩,
 ⟨none, none, .st 1 (.tmp 64) (.tmp 62)⟩] [(0, 1), (0, 2), (1, 2), (0, 3), (1, 3), (2, 3), (0, 4), (1, 4), (2, 4), (3, 4), (0, 5), (1, 5), (2, 5), (0, 6), (1, 6), (2, 6), (3, 6), (4, 6), (5, 6), (0, 7), (1, 7), (2, 7), (3, 7), (4, 7), (5, 7), (6, 7), (0, 8), (1, 8), (2, 8), (3, 8), (4, 8), (5, 8), (6, 8), (7, 8), (0, 9), (1, 9), (2, 9), (3, 9), (4, 9), (5, 9), (6, 9), (0, 10), (1, 10), (2, 10), (3, 10), (4, 10), (5, 10), (0, 11), (1, 11), (2, 11), (3, 11), (4, 11), (5, 11), (0, 12), (1, 12), (2, 12), (3, 12), (4, 12), (5, 12), (6, 12), (7, 12), (8, 12), (9, 12), (10, 12), (11, 12), (0, 13), (1, 13), (2, 13), (3, 13), (4, 13), (5, 13), (6, 13), (7, 13), (8, 13), (9, 13), (10, 13), (11, 13), (12, 13), (0, 14), (1, 14), (2, 14), (3, 14), (4, 14), (5, 14), (6, 14), (7, 14), (8, 14), (9, 14), (10, 14), (11, 14), (0, 15), (1, 15), (2, 15), (3, 15), (4, 15), (5, 15), (6, 15), (7, 15), (8, 15), (9, 15), (10, 15), (11, 15), (2, 16), (3, 16), (4, 16), (5, 16), (2, 17), (3, 17), (4, 17), (5, 17)]))))
 (.ops [⟨some 34, none, .mov (.tmp 9)⟩,
 ⟨some 35, none, .bin .add (.tmp 34) (.const (.int .i64 1))⟩,
 ⟨some 9, none, .mov (.tmp 35)⟩]))))))))
 .skip)))⟩
theorem ok53 : compF Tryz.prog Tryz.f53 = some c53 := by kernel_rfl
def c54 : CF := ⟨57, [.tmp 6, .tmp 7],
 (.seq (.ops [⟨some 6, none, .mov (.const (.int .i64 0))⟩,
 ⟨some 7, none, .mov (.const (.int .i64 0))⟩])
 (.seq (.ops [⟨some 13, none, .mov (.tmp 2)⟩,
 ⟨some 14, none, .mov (.tmp 1)⟩,
 ⟨some 15, none, .bin .sub (.tmp 13) (.tmp 14)⟩,
 ⟨some 8, none, .mov (.tmp 15)⟩])
 (.seq (.ops [⟨some 9, none, .newz [(.int .i64 0)]⟩])
 (.seq (.ops [⟨some 16, none, .mov (.tmp 1)⟩,
 ⟨some 17, none, .mov (.tmp 8)⟩,
 ⟨some 18, none, .bin .quo (.tmp 17) (.const (.int .i64 4))⟩,
 ⟨some 19, none, .bin .mul (.tmp 18) (.const (.int .i64 1))⟩,
 ⟨some 20, none, .bin .add (.tmp 16) (.tmp 19)⟩,
 ⟨some 10, none, .mov (.tmp 20)⟩])
 (.seq (.ops [⟨some 21, none, .mov (.tmp 1)⟩,
 ⟨some 22, none, .mov (.tmp 8)⟩,
 ⟨some 23, none, .bin .quo (.tmp 22) (.const (.int .i64 4))⟩,
 ⟨some 24, none, .bin .mul (.tmp 23) (.const (.int .i64 2))⟩,
 ⟨some 25, none, .bin .add (.tmp 21) (.tmp 24)⟩,
 ⟨some 11, none, .mov (.tmp 25)⟩])
 (.seq (.ops [⟨some 26, none, .mov (.tmp 1)⟩,
 ⟨some 27, none, .mov (.tmp 8)⟩,
 ⟨some 28, none, .bin .quo (.tmp 27) (.const (.int .i64 4))⟩,
 ⟨some 29, none, .bin .mul (.tmp 28) (.const (.int .i64 3))⟩,
 ⟨some 30, none, .bin .add (.tmp 26) (.tmp 29)⟩,
 ⟨some 12, none, .mov (.tmp 30)⟩])
 (.seq (.seq (.ops [⟨some 31, none, .mov (.tmp 8)⟩,
 ⟨some 32, none, .bin .geq (.tmp 31) (.const (.int .i64 8))⟩])
 (.cond (.tmp 32)
 (.seq (.seq (.ops [⟨some 33, none, .mov (.tmp 8)⟩,
 ⟨some 34, none, .bin .geq (.tmp 33) (.const (.int .i64 50))⟩])
 (.cond (.tmp 34)
 (.seq (.ops [⟨some 35, none, .mov (.tmp 0)⟩,
 ⟨some 36, none, .mov (.tmp 10)⟩,
 ⟨some 37, none, .call (.func 78) [(.tmp 35), (.tmp 36), (.tmp 9)]⟩,
 ⟨some 10, none, .mov (.tmp 37)⟩])
 (.seq (.ops [⟨some 38, none, .mov (.tmp 0)⟩,
 ⟨some 39, none, .mov (.tmp 11)⟩,
 ⟨some 40, none, .call (.func 78) [(.tmp 38), (.tmp 39), (.tmp 9)]⟩,
 ⟨some 11, none, .mov (.tmp 40)⟩])
 (.ops [⟨some 41, none, .mov (.tmp 0)⟩,
 ⟨some 42, none, .mov (.tmp 12)⟩,
 ⟨some 43, none, .call (.func 78) [(.tmp 41), (.tmp 42), (.tmp 9)]⟩,
 ⟨some 12, none, .mov (.tmp 43)⟩])))
 .skip))
 (.ops [⟨some 44, none, .mov (.tmp 0)⟩,
 ⟨some 45, none, .mov (.tmp 10)⟩,
 ⟨some 46, none, .mov (.tmp 11)⟩,
 ⟨some 47, none, .mov (.tmp 12)⟩,
 ⟨some 48, none, .call (.func 79) [(.tmp 44), (.tmp 45), (.tmp 46), (.tmp 47), (.tmp 9)]⟩,
 ⟨some 11, none, .mov (.tmp 48)⟩]))
 .skip))
 (.seq (.ops [⟨some 49, none, .ld1 (.tmp 9)⟩])
 (.block 0 (.seq (.ops [⟨some 52, none, .bin .eql (.tmp 49) (.const (.int .i64 0))⟩,
 ⟨some 51, none, .mov (.tmp 52)⟩])
 (.cond (.tmp 51)
 (.seq (.ops [⟨some 53, none, .mov (.tmp 11)⟩,
 ⟨some 6, none, .mov (.tmp 53)⟩,
 ⟨some 7, none, .mov (.const (.int .i64 1))⟩])
 .ret)
 (.seq (.ops [⟨some 55, none, .bin .eql (.tmp 49) (.const (.int .i64 12))⟩,
 ⟨some 54, none, .mov (.tmp 55)⟩])
 (.cond (.tmp 54)
 (.seq (.ops [⟨some 56, none, .mov (.tmp 11)⟩,
 ⟨some 6, none, .mov (.tmp 56)⟩,
 ⟨some 7, none, .mov (.const (.int .i64 2))⟩])
 .ret)
 (.seq (.ops [⟨some 50, none, .mov (.tmp 11)⟩,
 ⟨some 6, none, .mov (.tmp 50)⟩,
 ⟨some 7, none, .mov (.const (.int .i64 0))⟩])
 .ret))))))))))))))⟩
theorem ok54 : compF Tryz.prog Tryz.f54 = some c54 := by kernel_rfl
def c55 : CF := ⟨32, [],
 (.seq (.ops [⟨some 8, none, .mov (.tmp 1)⟩,
 ⟨some 6, none, .mov (.tmp 8)⟩])
 (.seq (.ops [⟨some 9, none, .mov (.tmp 2)⟩,
 ⟨some 10, none, .bin .sub (.tmp 9) (.const (.int .i64 1))⟩,
 ⟨some 7, none, .mov (.tmp 10)⟩])
 (.block 0 (.loop (.seq (.seq (.ops [⟨some 11, none, .mov (.tmp 6)⟩,
 ⟨some 12, none, .mov (.tmp 7)⟩,
 ⟨some 13, none, .bin .lss (.tmp 11) (.tmp 12)⟩])
 (.cond (.tmp 13)
 .skip
 (.exit 0)))
 (.block 1 (.seq (.draw [⟨some 14, none, .mov (.tmp 0)⟩,
 ⟨some 15, none, .mov (.tmp 6)⟩,
 ⟨some 16, none, .mov (.tmp 0)⟩,
 ⟨some 17, none, .mov (.tmp 7)⟩,
 ⟨some 18, none, .mov (.tmp 0)⟩,
 ⟨some 19, none, .mov (.tmp 7)⟩,
 ⟨some 20, none, .iad 1 (.tmp 18) (.tmp 19)⟩,
 ⟨some 21, none, .ld1 (.tmp 20)⟩,
 ⟨some 22, none, .mov (.tmp 0)⟩,
 ⟨some 23, none, .mov (.tmp 6)⟩,
 ⟨some 24, none, .iad 1 (.tmp 22) (.tmp 23)⟩,
 ⟨some 25, none, .ld1 (.tmp 24)⟩,
 ⟨some 26, none, .iad 1 (.tmp 14) (.tmp 15)⟩,
 ⟨none, none, .st 1 (.tmp 26) (.tmp 21)⟩,
 ⟨some 27, none, .iad 1 (.tmp 16) (.tmp 17)⟩,
 ⟨none, none, .st 1 (.tmp 27) (.tmp 25)⟩] [(0, 1), (0, 2), (1, 2), (0, 3), (1, 3), (2, 3), (0, 4), (1, 4), (2, 4), (3, 4), (0, 5), (1, 5), (2, 5), (3, 5), (4, 5), (0, 6), (1, 6), (2, 6), (3, 6), (0, 7), (1, 7), (2, 7), (3, 7), (0, 8), (1, 8), (2, 8), (3, 8), (4, 8), (5, 8), (6, 8), (7, 8), (0, 9), (1, 9), (2, 9), (3, 9), (4, 9), (5, 9), (6, 9), (7, 9), (8, 9), (0, 10), (1, 10), (2, 10), (3, 10), (4, 10), (5, 10), (6, 10), (7, 10), (0, 11), (1, 11), (2, 11), (3, 11), (4, 11), (5, 11), (6, 11), (7, 11), (2, 12), (3, 12), (2, 13), (3, 13)])
 (.seq (.ops [⟨some 28, none, .mov (.tmp 6)⟩,
 ⟨some 29, none, .bin .add (.tmp 28) (.const (.int .i64 1))⟩,
 ⟨some 6, none, .mov (.tmp 29)⟩])
 (.ops [⟨some 30, none, .mov (.tmp 7)⟩,
 ⟨some 31, none, .bin .sub (.tmp 30) (.const (.int .i64 1))⟩,
 ⟨some 7, none, .mov (.tmp 31)⟩])))))))))⟩
theorem ok55 : compF Tryz.prog Tryz.f55 = some c55 := by kernel_rfl
def c56 : CF := ⟨133, [.tmp 6],
 (.seq (.ops [⟨some 6, none, .mov (.const (.bool false))⟩])
 (.seq (.ops [⟨some 11, none, .mov (.tmp 1)⟩,
 ⟨some 12, none, .bin .add (.tmp 11) (.const (.int .i64 1))⟩,
 ⟨some 7, none, .mov (.tmp 12)⟩])
 (.seq (.seq (.ops [⟨some 8, none, .mov (.const (.int .i64 0))⟩])
 (.block 0 (.loop (.seq (.seq (.ops [⟨some 13, none, .mov (.tmp 8)⟩,
 ⟨some 14, none, .bin .lss (.tmp 13) (.const (.int .i64 5))⟩])
 (.cond (.tmp 14)
 .skip
 (.exit 0)))
 (.seq (.block 1 (.seq (.block 2 (.loop (.seq (.seq (.draw [⟨some 17, none, .mov (.tmp 7)⟩,
 ⟨some 18, none, .mov (.tmp 2)⟩,
 ⟨some 19, none, .bin .lss (.tmp 17) (.tmp 18)⟩,
 ⟨some 20, none, .mov (.tmp 19)⟩,
 ⟨some 21, (some (20, true)), .mov (.tmp 0)⟩,
 ⟨some 22, (some (20, true)), .mov (.tmp 7)⟩,
 ⟨some 23, (some (20, true)), .iad 1 (.tmp 21) (.tmp 22)⟩,
 ⟨some 24, (some (20, true)), .ld1 (.tmp 23)⟩,
 ⟨some 25, (some (20, true)), .mov (.tmp 0)⟩,
 ⟨some 26, (some (20, true)), .mov (.tmp 7)⟩,
 ⟨some 27, (some (20, true)), .bin .sub (.tmp 26) (.const (.int .i64 1))⟩,
 ⟨some 28, (some (20, true)), .iad 1 (.tmp 25) (.tmp 27)⟩,
 ⟨some 29, (some (20, true)), .ld1 (.tmp 28)⟩,
 ⟨some 30, (some (20, true)), .call (.func 57) [(.tmp 24), (.tmp 29)]⟩,
 ⟨some 31, (some (20, true)), .un .not (.tmp 30)⟩,
 ⟨some 32, none, .pick (.tmp 20) (.tmp 31) (.const (.bool false))⟩] [(0, 1), (4, 5), (4, 8), (5, 8), (6, 8), (7, 8), (4, 9), (5, 9), (6, 9), (7, 9), (8, 9), (4, 10), (5, 10), (6, 10), (7, 10), (8, 10), (4, 11), (5, 11), (6, 11), (7, 11), (4, 12), (5, 12), (6, 12), (7, 12)])
 (.cond (.tmp 32)
 .skip
 (.exit 2)))
 (.block 3 (.ops [⟨some 33, none, .mov (.tmp 7)⟩,
 ⟨some 34, none, .bin .add (.tmp 33) (.const (.int .i64 1))⟩,
 ⟨some 7, none, .mov (.tmp 34)⟩])))))
 (.seq (.seq (.ops [⟨some 35, none, .mov (.tmp 7)⟩,
 ⟨some 36, none, .mov (.tmp 2)⟩,
 ⟨some 37, none, .bin .eql (.tmp 35) (.tmp 36)⟩])
 (.cond (.tmp 37)
 (.seq (.ops [⟨some 6, none, .mov (.const (.bool true))⟩])
 .ret)
 .skip))
 (.seq (.seq (.ops [⟨some 38, none, .mov (.tmp 2)⟩,
 ⟨some 39, none, .mov (.tmp 1)⟩,
 ⟨some 40, none, .bin .sub (.tmp 38) (.tmp 39)⟩,
 ⟨some 41, none, .bin .lss (.tmp 40) (.const (.int .i64 50))⟩])
 (.cond (.tmp 41)
 (.seq (.ops [⟨some 6, none, .mov (.const (.bool false))⟩])
 .ret)
 .skip))
 (.seq (.draw [⟨some 42, none, .mov (.tmp 0)⟩,
 ⟨some 43, none, .mov (.tmp 7)⟩,
 ⟨some 44, none, .mov (.tmp 0)⟩,
 ⟨some 45, none, .mov (.tmp 7)⟩,
 ⟨some 46, none, .bin .sub (.tmp 45) (.const (.int .i64 1))⟩,
 ⟨some 47, none, .mov (.tmp 0)⟩,
 ⟨some 48, none, .mov (.tmp 7)⟩,
 ⟨some 49, none, .bin .sub (.tmp 48) (.const (.int .i64 1))⟩,
 ⟨some 50, none, .iad 1 (.tmp 47) (.tmp 49)⟩,
 ⟨some 51, none, .ld1 (.tmp 50)⟩,
 ⟨some 52, none, .mov (.tmp 0)⟩,
 ⟨some 53, none, .mov (.tmp 7)⟩,
 ⟨some 54, none, .iad 1 (.tmp 52) (.tmp 53)⟩,
 ⟨some 55, none, .ld1 (.tmp 54)⟩,
 ⟨some 56, none, .iad 1 (.tmp 42) (.tmp 43)⟩,
 ⟨none, none, .st 1 (.tmp 56) (.tmp 51)⟩,
 ⟨some 57, none, .iad 1 (.tmp 44) (.tmp 46)⟩,
 ⟨none, none, .st 1 (.tmp 57) (.tmp 55)⟩] [(0, 1), (0, 2), (1, 2), (0, 3), (1, 3), (2, 3), (0, 4), (1, 4), (2, 4), (0, 5), (1, 5), (2, 5), (3, 5), (4, 5), (0, 6), (1, 6), (2, 6), (3, 6), (4, 6), (5, 6), (0, 7), (1, 7), (2, 7), (3, 7), (4, 7), (5, 7), (0, 8), (1, 8), (2, 8), (3, 8), (4, 8), (0, 9), (1, 9), (2, 9), (3, 9), (4, 9), (0, 10), (1, 10), (2, 10), (3, 10), (4, 10), (5, 10), (6, 10), (7, 10), (8, 10), (9, 10), (0, 11), (1, 11), (2, 11), (3, 11), (4, 11), (5, 11), (6, 11), (7, 11), (8, 11), (9, 11), (10, 11), (0, 12), (1, 12), (2, 12), (3, 12), (4, 12), (5, 12), (6, 12), (7, 12), (8, 12), (9, 12), (0, 13), (1, 13), (2, 13), (3, 13), (4, 13), (5, 13), (6, 13), (7, 13), (8, 13), (9, 13), (2, 14), (3, 14), (4, 14), (2, 15), (3, 15), (4, 15)])
 (.seq (.seq (.ops [⟨some 58, none, .mov (.tmp 7)⟩,
 ⟨some 59, none, .mov (.tmp 1)⟩,
 ⟨some 60, none, .bin .sub (.tmp 58) (.tmp 59)⟩,
 ⟨some 61, none, .bin .geq (.tmp 60) (.const (.int .i64 2))⟩])
 (.cond (.tmp 61)
 (.seq (.ops [⟨some 62, none, .mov (.tmp 7)⟩,
 ⟨some 63, none, .bin .sub (.tmp 62) (.const (.int .i64 1))⟩,
 ⟨some 9, none, .mov (.tmp 63)⟩])
 (.block 4 (.loop (.seq (.seq (.ops [⟨some 64, none, .mov (.tmp 9)⟩,
 ⟨some 65, none, .bin .geq (.tmp 64) (.const (.int .i64 1))⟩])
 (.cond (.tmp 65)
 .skip
 (.exit 4)))
 (.seq (.block 5 (.seq (.seq (.draw [⟨some 68, none, .mov (.tmp 0)⟩,
 ⟨some 69, none, .mov (.tmp 9)⟩,
 ⟨some 70, none, .iad 1 (.tmp 68) (.tmp 69)⟩,
 ⟨some 71, none, .ld1 (.tmp 70)⟩,
 ⟨some 72, none, .mov (.tmp 0)⟩,
 ⟨some 73, none, .mov (.tmp 9)⟩,
 ⟨some 74, none, .bin .sub (.tmp 73) (.const (.int .i64 1))⟩,
 ⟨some 75, none, .iad 1 (.tmp 72) (.tmp 74)⟩,
 ⟨some 76, none, .ld1 (.tmp 75)⟩,
 ⟨some 77, none, .call (.func 57) [(.tmp 71), (.tmp 76)]⟩,
 ⟨some 78, none, .un .not (.tmp 77)⟩] [(0, 1), (0, 4), (1, 4), (2, 4), (3, 4), (0, 5), (1, 5), (2, 5), (3, 5), (4, 5), (0, 6), (1, 6), (2, 6), (3, 6), (4, 6), (0, 7), (1, 7), (2, 7), (3, 7), (0, 8), (1, 8), (2, 8), (3, 8)])
 (.cond (.tmp 78)
 (.exit 4)
 .skip))
 (.draw [⟨some 79, none, .mov (.tmp 0)⟩,
 ⟨some 80, none, .mov (.tmp 9)⟩,
 ⟨some 81, none, .mov (.tmp 0)⟩,
 ⟨some 82, none, .mov (.tmp 9)⟩,
 ⟨some 83, none, .bin .sub (.tmp 82) (.const (.int .i64 1))⟩,
 ⟨some 84, none, .mov (.tmp 0)⟩,
 ⟨some 85, none, .mov (.tmp 9)⟩,
 ⟨some 86, none, .bin .sub (.tmp 85) (.const (.int .i64 1))⟩,
 ⟨some 87, none, .iad 1 (.tmp 84) (.tmp 86)⟩,
 ⟨some 88, none, .ld1 (.tmp 87)⟩,
 ⟨some 89, none, .mov (.tmp 0)⟩,
 ⟨some 90, none, .mov (.tmp 9)⟩,
 ⟨some 91, none, .iad 1 (.tmp 89) (.tmp 90)⟩,
 ⟨some 92, none, .ld1 (.tmp 91)⟩,
 ⟨some 93, none, .iad 1 (.tmp 79) (.tmp 80)⟩,
 ⟨none, none, .st 1 (.tmp 93) (.tmp 88)⟩,
 ⟨some 94, none, .iad 1 (.tmp 81) (.tmp 83)⟩,
 ⟨none, none, .st 1 (.tmp 94) (.tmp 92)⟩] [(0, 1), (0, 2), (1, 2), (0, 3), (1, 3), (2, 3), (0, 4), (1, 4), (2, 4), (0, 5), (1, 5), (2, 5), (3, 5), (4, 5), (0, 6), (1, 6), (2, 6), (3, 6), (4, 6), (5, 6), (0, 7), (1, 7), (2, 7), (3, 7), (4, 7), (5, 7), (0, 8), (1, 8), (2, 8), (3, 8), (4, 8), (0, 9), (1, 9), (2, 9), (3, 9), (4, 9), (0, 10), (1, 10), (2, 10), (3, 10), (4, 10), (5, 10), (6, 10), (7, 10), (8, 10), (9, 10), (0, 11), (1, 11), (2, 11), (3, 11), (4, 11), (5, 11), (6, 11), (7, 11), (8, 11), (9, 11), (10, 11), (0, 12), (1, 12), (2, 12), (3, 12), (4, 12), (5, 12), (6, 12), (7, 12), (8, 12), (9, 12), (0, 13), (1, 13), (2, 13), (3, 13), (4, 13), (5, 13), (6, 13), (7, 13), (8, 13), (9, 13), (2, 14), (3, 14), (4, 14), (2, 15), (3, 15), (4, 15)])))
 (.ops [⟨some 66, none, .mov (.tmp 9)⟩,
 ⟨some 67, none, .bin .sub (.tmp 66) (.const (.int .i64 1))⟩,
 ⟨some 9, none, .mov (.tmp 67)⟩]))))))
 .skip))
 (.seq (.ops [⟨some 95, none, .mov (.tmp 2)⟩,
 ⟨some 96, none, .mov (.tmp 7)⟩,
 ⟨some 97, none, .bin .sub (.tmp 95) (.tmp 96)⟩,
 ⟨some 98, none, .bin .geq (.tmp 97) (.const (.int .i64 2))⟩])
 (.cond (.tmp 98)
 (.seq (.ops [⟨some 99, none, .mov (.tmp 7)⟩,
 ⟨some 100, none, .bin .add (.tmp 99) (.const (.int .i64 1))⟩,
 ⟨some 10, none, .mov (.tmp 100)⟩])
 (.block 6 (.loop (.seq (.seq (.ops [⟨some 101, none, .mov (.tmp 10)⟩,
 ⟨some 102, none, .mov (.tmp 2)⟩,
 ⟨some 103, none, .bin .lss (.tmp 101) (.tmp 102)⟩])
 (.cond (.tmp 103)
 .skip
 (.exit 6)))
 (.seq (.block 7 (.seq (.seq (.draw [⟨some 106, none, .mov (.tmp 0)⟩,
 ⟨some 107, none, .mov (.tmp 10)⟩,
 ⟨some 108, none, .iad 1 (.tmp 106) (.tmp 107)⟩,
 ⟨some 109, none, .ld1 (.tmp 108)⟩,
 ⟨some 110, none, .mov (.tmp 0)⟩,
 ⟨some 111, none, .mov (.tmp 10)⟩,
 ⟨some 112, none, .bin .sub (.tmp 111) (.const (.int .i64 1))⟩,
 ⟨some 113, none, .iad 1 (.tmp 110) (.tmp 112)⟩,
 ⟨some 114, none, .ld1 (.tmp 113)⟩,
 ⟨some 115, none, .call (.func 57) [(.tmp 109), (.tmp 114)]⟩,
 ⟨some 116, none, .un .not (.tmp 115)⟩] [(0, 1), (0, 4), (1, 4), (2, 4), (3, 4), (0, 5), (1, 5), (2, 5), (3, 5), (4, 5), (0, 6), (1, 6), (2, 6), (3, 6), (4, 6), (0, 7), (1, 7), (2, 7), (3, 7), (0, 8), (1, 8), (2, 8), (3, 8)])
 (.cond (.tmp 116)
 (.exit 6)
 .skip))
 (.draw [⟨some 117, none, .mov (.tmp 0)⟩,
 ⟨some 118, none, .mov (.tmp 10)⟩,
 ⟨some 119, none, .mov (.tmp 0)⟩,
 ⟨some 120, none, .mov (.tmp 10)⟩,
 ⟨some 121, none, .bin .sub (.tmp 120) (.const (.int .i64 1))⟩,
 ⟨some 122, none, .mov (.tmp 0)⟩,
 ⟨some 123, none, .mov (.tmp 10)⟩,
 ⟨some 124, none, .bin .sub (.tmp 123) (.const (.int .i64 1))⟩,
 ⟨some 125, none, .iad 1 (.tmp 122) (.tmp 124)⟩,
 ⟨some 126, none, .ld1 (.tmp 125)⟩,
 ⟨some 127, none, .mov (.tmp 0)⟩,
 ⟨some 128, none, .mov (.tmp 10)⟩,
 ⟨some 129, none, .iad 1 (.tmp 127) (.tmp 128)⟩,
 ⟨some 130, none, .ld1 (.tmp 129)⟩,
 ⟨some 131, none, .iad 1 (.tmp 117) (.tmp 118)⟩,
 ⟨none, none, .st 1 (.tmp 131) (.tmp 126)⟩,
 ⟨some 132, none, .iad 1 (.tmp 119) (.tmp 121)⟩,
 ⟨none, none, .st 1 (.tmp 132) (.tmp 130)⟩] [(0, 1), (0, 2), (1, 2), (0, 3), (1, 3), (2, 3), (0, 4), (1, 4), (2, 4), (0, 5), (1, 5), (2, 5), (3, 5), (4, 5), (0, 6), (1, 6), (2, 6), (3, 6), (4, 6), (5, 6), (0, 7), (1, 7), (2, 7), (3, 7), (4, 7), (5, 7), (0, 8), (1, 8), (2, 8), (3, 8), (4, 8), (0, 9), (1, 9), (2, 9), (3, 9), (4, 9), (0, 10), (1, 10), (2, 10), (3, 10), (4, 10), (5, 10), (6, 10), (7, 10), (8, 10), (9, 10), (0, 11), (1, 11), (2, 11), (3, 11), (4, 11), (5, 11), (6, 11), (7, 11), (8, 11), (9, 11), (10, 11), (0, 12), (1, 12), (2, 12), (3, 12), (4, 12), (5, 12), (6, 12), (7, 12), (8, 12), (9, 12), (0, 13), (1, 13), (2, 13), (3, 13), (4, 13), (5, 13), (6, 13), (7, 13), (8, 13), (9, 13), (2, 14), (3, 14), (4, 14), (2, 15), (3, 15), (4, 15)])))
 (.ops [⟨some 104, none, .mov (.tmp 10)⟩,
 ⟨some 105, none, .bin .add (.tmp 104) (.const (.int .i64 1))⟩,
 ⟨some 10, none, .mov (.tmp 105)⟩]))))))
 .skip))))))))
 (.ops [⟨some 15, none, .mov (.tmp 8)⟩,
 ⟨some 16, none, .bin .add (.tmp 15) (.const (.int .i64 1))⟩,
 ⟨some 8, none, .mov (.tmp 16)⟩]))))))
 (.seq (.ops [⟨some 6, none, .mov (.const (.bool false))⟩])
 .ret))))⟩
theorem ok56 : compF Tryz.prog Tryz.f56 = some c56 := by kernel_rfl
def c57 : CF := ⟨17, [.tmp 4],
 (.seq (.ops [⟨some 4, none, .mov (.const (.bool false))⟩])
 (.seq (.ops [⟨some 5, none, .mov (.tmp 0)⟩,
 ⟨some 6, none, .call (.func 80) [(.tmp 5)]⟩,
 ⟨some 7, none, .mov (.tmp 6)⟩,
 ⟨some 8, (some (7, true)), .mov (.tmp 1)⟩,
 ⟨some 9, (some (7, true)), .call (.func 80) [(.tmp 8)]⟩,
 ⟨some 10, (some (7, true)), .un .not (.tmp 9)⟩,
 ⟨some 11, none, .pick (.tmp 7) (.tmp 10) (.const (.bool false))⟩,
 ⟨some 12, none, .mov (.tmp 11)⟩,
 ⟨some 13, (some (12, false)), .mov (.tmp 0)⟩,
 ⟨some 14, (some (12, false)), .mov (.tmp 1)⟩,
 ⟨some 15, (some (12, false)), .bin .lss (.tmp 13) (.tmp 14)⟩,
 ⟨some 16, none, .pick (.tmp 12) (.const (.bool true)) (.tmp 15)⟩,
 ⟨some 4, none, .mov (.tmp 16)⟩])
 .ret))⟩
theorem ok57 : compF Tryz.prog Tryz.f57 = some c57 := by kernel_rfl
def c58 : CF := ⟨84, [.tmp 8],
 (.seq (.ops [⟨some 8, none, .mov (.const (.int .i64 0))⟩])
 (.seq (.draw [⟨some 11, none, .mov (.tmp 0)⟩,
 ⟨some 12, none, .mov (.tmp 1)⟩,
 ⟨some 13, none, .mov (.tmp 0)⟩,
 ⟨some 14, none, .mov (.tmp 3)⟩,
 ⟨some 15, none, .mov (.tmp 0)⟩,
 ⟨some 16, none, .mov (.tmp 3)⟩,
 ⟨some 17, none, .iad 1 (.tmp 15) (.tmp 16)⟩,
 ⟨some 18, none, .ld1 (.tmp 17)⟩,
 ⟨some 19, none, .mov (.tmp 0)⟩,
 ⟨some 20, none, .mov (.tmp 1)⟩,
 ⟨some 21, none, .iad 1 (.tmp 19) (.tmp 20)⟩,
 ⟨some 22, none, .ld1 (.tmp 21)⟩,
 ⟨some 23, none, .iad 1 (.tmp 11) (.tmp 12)⟩,
 ⟨none, none, .st 1 (.tmp 23) (.tmp 18)⟩,
 ⟨some 24, none, .iad 1 (.tmp 13) (.tmp 14)⟩,
 ⟨none, none, .st 1 (.tmp 24) (.tmp 22)⟩] [(0, 1), (0, 2), (1, 2), (0, 3), (1, 3), (2, 3), (0, 4), (1, 4), (2, 4), (3, 4), (0, 5), (1, 5), (2, 5), (3, 5), (4, 5), (0, 6), (1, 6), (2, 6), (3, 6), (0, 7), (1, 7), (2, 7), (3, 7), (0, 8), (1, 8), (2, 8), (3, 8), (4, 8), (5, 8), (6, 8), (7, 8), (0, 9), (1, 9), (2, 9), (3, 9), (4, 9), (5, 9), (6, 9), (7, 9), (8, 9), (0, 10), (1, 10), (2, 10), (3, 10), (4, 10), (5, 10), (6, 10), (7, 10), (0, 11), (1, 11), (2, 11), (3, 11), (4, 11), (5, 11), (6, 11), (7, 11), (2, 12), (3, 12), (2, 13), (3, 13)])
 (.seq (.ops [⟨some 25, none, .mov (.tmp 1)⟩,
 ⟨some 26, none, .bin .add (.tmp 25) (.const (.int .i64 1))⟩,
 ⟨some 27, none, .mov (.tmp 2)⟩,
 ⟨some 28, none, .bin .sub (.tmp 27) (.const (.int .i64 1))⟩,
 ⟨some 9, none, .mov (.tmp 26)⟩,
 ⟨some 10, none, .mov (.tmp 28)⟩])
 (.seq (.block 0 (.loop (.block 1 (.seq (.block 2 (.loop (.seq (.seq (.draw [⟨some 29, none, .mov (.tmp 9)⟩,
 ⟨some 30, none, .mov (.tmp 10)⟩,
 ⟨some 31, none, .bin .leq (.tmp 29) (.tmp 30)⟩,
 ⟨some 32, none, .mov (.tmp 31)⟩,
 ⟨some 33, (some (32, true)), .mov (.tmp 0)⟩,
 ⟨some 34, (some (32, true)), .mov (.tmp 1)⟩,
 ⟨some 35, (some (32, true)), .iad 1 (.tmp 33) (.tmp 34)⟩,
 ⟨some 36, (some (32, true)), .ld1 (.tmp 35)⟩,
 ⟨some 37, (some (32, true)), .mov (.tmp 0)⟩,
 ⟨some 38, (some (32, true)), .mov (.tmp 9)⟩,
 ⟨some 39, (some (32, true)), .iad 1 (.tmp 37) (.tmp 38)⟩,
 ⟨some 40, (some (32, true)), .ld1 (.tmp 39)⟩,
 ⟨some 41, (some (32, true)), .call (.func 57) [(.tmp 36), (.tmp 40)]⟩,
 ⟨some 42, (some (32, true)), .un .not (.tmp 41)⟩,
 ⟨some 43, none, .pick (.tmp 32) (.tmp 42) (.const (.bool false))⟩] [(0, 1), (4, 5), (4, 8), (5, 8), (6, 8), (7, 8), (4, 9), (5, 9), (6, 9), (7, 9), (8, 9), (4, 10), (5, 10), (6, 10), (7, 10), (4, 11), (5, 11), (6, 11), (7, 11)])
 (.cond (.tmp 43)
 .skip
 (.exit 2)))
 (.block 3 (.ops [⟨some 44, none, .mov (.tmp 9)⟩,
 ⟨some 45, none, .bin .add (.tmp 44) (.const (.int .i64 1))⟩,
 ⟨some 9, none, .mov (.tmp 45)⟩])))))
 (.seq (.block 4 (.loop (.seq (.seq (.draw [⟨some 46, none, .mov (.tmp 9)⟩,
 ⟨some 47, none, .mov (.tmp 10)⟩,
 ⟨some 48, none, .bin .leq (.tmp 46) (.tmp 47)⟩,
 ⟨some 49, none, .mov (.tmp 48)⟩,
 ⟨some 50, (some (49, true)), .mov (.tmp 0)⟩,
 ⟨some 51, (some (49, true)), .mov (.tmp 1)⟩,
 ⟨some 52, (some (49, true)), .iad 1 (.tmp 50) (.tmp 51)⟩,
 ⟨some 53, (some (49, true)), .ld1 (.tmp 52)⟩,
 ⟨some 54, (some (49, true)), .mov (.tmp 0)⟩,
 ⟨some 55, (some (49, true)), .mov (.tmp 10)⟩,
 ⟨some 56, (some (49, true)), .iad 1 (.tmp 54) (.tmp 55)⟩,
 ⟨some 57, (some (49, true)), .ld1 (.tmp 56)⟩,
 ⟨some 58, (some (49, true)), .call (.func 57) [(.tmp 53), (.tmp 57)]⟩,
 ⟨some 59, none, .pick (.tmp 49) (.tmp 58) (.const (.bool false))⟩] [(0, 1), (4, 5), (4, 8), (5, 8), (6, 8), (7, 8), (4, 9), (5, 9), (6, 9), (7, 9), (8, 9), (4, 10), (5, 10), (6, 10), (7, 10), (4, 11), (5, 11), (6, 11), (7, 11)])
 (.cond (.tmp 59)
 .skip
 (.exit 4)))
 (.block 5 (.ops [⟨some 60, none, .mov (.tmp 10)⟩,
 ⟨some 61, none, .bin .sub (.tmp 60) (.const (.int .i64 1))⟩,
 ⟨some 10, none, .mov (.tmp 61)⟩])))))
 (.seq (.seq (.ops [⟨some 62, none, .mov (.tmp 9)⟩,
 ⟨some 63, none, .mov (.tmp 10)⟩,
 ⟨some 64, none, .bin .gtr (.tmp 62) (.tmp 63)⟩])
 (.cond (.tmp 64)
 (.exit 0)
 .skip))
 (.seq (.draw [⟨some 65, none, .mov (.tmp 0)⟩,
 ⟨some 66, none, .mov (.tmp 9)⟩,
 ⟨some 67, none, .mov (.tmp 0)⟩,
 ⟨some 68, none, .mov (.tmp 10)⟩,
 ⟨some 69, none, .mov (.tmp 0)⟩,
 ⟨some 70, none, .mov (.tmp 10)⟩,
 ⟨some 71, none, .iad 1 (.tmp 69) (.tmp 70)⟩,
 ⟨some 72, none, .ld1 (.tmp 71)⟩,
 ⟨some 73, none, .mov (.tmp 0)⟩,
 ⟨some 74, none, .mov (.tmp 9)⟩,
 ⟨some 75, none, .iad 1 (.tmp 73) (.tmp 74)⟩,
 ⟨some 76, none, .ld1 (.tmp 75)⟩,
 ⟨some 77, none, .iad 1 (.tmp 65) (.tmp 66)⟩,
 ⟨none, none, .st 1 (.tmp 77) (.tmp 72)⟩,
 ⟨some 78, none, .iad 1 (.tmp 67) (.tmp 68)⟩,
 ⟨none, none, .st 1 (.tmp 78) (.tmp 76)⟩] [(0, 1), (0, 2), (1, 2), (0, 3), (1, 3), (2, 3), (0, 4), (1, 4), (2, 4), (3, 4), (0, 5), (1, 5), (2, 5), (3, 5), (4, 5), (0, 6), (1, 6), (2, 6), (3, 6), (0, 7), (1, 7), (2, 7), (3, 7), (0, 8), (1, 8), (2, 8), (3, 8), (4, 8), (5, 8), (6, 8), (7, 8), (0, 9), (1, 9), (2, 9), (3, 9), (4, 9), (5, 9), (6, 9), (7, 9), (8, 9), (0, 10), (1, 10), (2, 10), (3, 10), (4, 10), (5, 10), (6, 10), (7, 10), (0, 11), (1, 11), (2, 11), (3, 11), (4, 11), (5, 11), (6, 11), (7, 11), (2, 12), (3, 12), (2, 13), (3, 13)])
 (.seq (.ops [⟨some 79, none, .mov (.tmp 9)⟩,
 ⟨some 80, none, .bin .add (.tmp 79) (.const (.int .i64 1))⟩,
 ⟨some 9, none, .mov (.tmp 80)⟩])
 (.ops [⟨some 81, none, .mov (.tmp 10)⟩,
 ⟨some 82, none, .bin .sub (.tmp 81) (.const (.int .i64 1))⟩,
 ⟨some 10, none, .mov (.tmp 82)⟩])))))))))
 (.seq (.ops [⟨some 83, none, .mov (.tmp 9)⟩,
 ⟨some 8, none, .mov (.tmp 83)⟩])
 .ret)))))⟩
theorem ok58 : compF Tryz.prog Tryz.f58 = some c58 := by kernel_rfl
def c59 : CF := ⟨168, [.tmp 8, .tmp 9],
 (.seq (.ops [⟨some 8, none, .mov (.const (.int .i64 0))⟩,
 ⟨some 9, none, .mov (.const (.bool false))⟩])
 (.seq (.draw [⟨some 12, none, .mov (.tmp 0)⟩,
 ⟨some 13, none, .mov (.tmp 1)⟩,
 ⟨some 14, none, .mov (.tmp 0)⟩,
 ⟨some 15, none, .mov (.tmp 3)⟩,
 ⟨some 16, none, .mov (.tmp 0)⟩,
 ⟨some 17, none, .mov (.tmp 3)⟩,
 ⟨some 18, none, .iad 1 (.tmp 16) (.tmp 17)⟩,
 ⟨some 19, none, .ld1 (.tmp 18)⟩,
 ⟨some 20, none, .mov (.tmp 0)⟩,
 ⟨some 21, none, .mov (.tmp 1)⟩,
 ⟨some 22, none, .iad 1 (.tmp 20) (.tmp 21)⟩,
 ⟨some 23, none, .ld1 (.tmp 22)⟩,
 ⟨some 24, none, .iad 1 (.tmp 12) (.tmp 13)⟩,
 ⟨none, none, .st 1 (.tmp 24) (.tmp 19)⟩,
 ⟨some 25, none, .iad 1 (.tmp 14) (.tmp 15)⟩,
 ⟨none, none, .st 1 (.tmp 25) (.tmp 23)⟩] [(0, 1), (0, 2), (1, 2), (0, 3), (1, 3), (2, 3), (0, 4), (1, 4), (2, 4), (3, 4), (0, 5), (1, 5), (2, 5), (3, 5), (4, 5), (0, 6), (1, 6), (2, 6), (3, 6), (0, 7), (1, 7), (2, 7), (3, 7), (0, 8), (1, 8), (2, 8), (3, 8), (4, 8), (5, 8), (6, 8), (7, 8), (0, 9), (1, 9), (2, 9), (3, 9), (4, 9), (5, 9), (6, 9), (7, 9), (8, 9), (0, 10), (1, 10), (2, 10), (3, 10), (4, 10), (5, 10), (6, 10), (7, 10), (0, 11), (1, 11), (2, 11), (3, 11), (4, 11), (5, 11), (6, 11), (7, 11), (2, 12), (3, 12), (2, 13), (3, 13)])
 (.seq (.ops [⟨some 26, none, .mov (.tmp 1)⟩,
 ⟨some 27, none, .bin .add (.tmp 26) (.const (.int .i64 1))⟩,
 ⟨some 28, none, .mov (.tmp 2)⟩,
 ⟨some 29, none, .bin .sub (.tmp 28) (.const (.int .i64 1))⟩,
 ⟨some 10, none, .mov (.tmp 27)⟩,
 ⟨some 11, none, .mov (.tmp 29)⟩])
 (.seq (.block 0 (.loop (.seq (.seq (.draw [⟨some 30, none, .mov (.tmp 10)⟩,
 ⟨some 31, none, .mov (.tmp 11)⟩,
 ⟨some 32, none, .bin .leq (.tmp 30) (.tmp 31)⟩,
 ⟨some 33, none, .mov (.tmp 32)⟩,
 ⟨some 34, (some (33, true)), .mov (.tmp 0)⟩,
 ⟨some 35, (some (33, true)), .mov (.tmp 10)⟩,
 ⟨some 36, (some (33, true)), .iad 1 (.tmp 34) (.tmp 35)⟩,
 ⟨some 37, (some (33, true)), .ld1 (.tmp 36)⟩,
 ⟨some 38, (some (33, true)), .mov (.tmp 0)⟩,
 ⟨some 39, (some (33, true)), .mov (.tmp 1)⟩,
 ⟨some 40, (some (33, true)), .iad 1 (.tmp 38) (.tmp 39)⟩,
 ⟨some 41, (some (33, true)), .ld1 (.tmp 40)⟩,
 ⟨some 42, (some (33, true)), .call (.func 57) [(.tmp 37), (.tmp 41)]⟩,
 ⟨some 43, none, .pick (.tmp 33) (.tmp 42) (.const (.bool false))⟩] [(0, 1), (4, 5), (4, 8), (5, 8), (6, 8), (7, 8), (4, 9), (5, 9), (6, 9), (7, 9), (8, 9), (4, 10), (5, 10), (6, 10), (7, 10), (4, 11), (5, 11), (6, 11), (7, 11)])
 (.cond (.tmp 43)
 .skip
 (.exit 0)))
 (.block 1 (.ops [⟨some 44, none, .mov (.tmp 10)⟩,
 ⟨some 45, none, .bin .add (.tmp 44) (.const (.int .i64 1))⟩,
 ⟨some 10, none, .mov (.tmp 45)⟩])))))
 (.seq (.block 2 (.loop (.seq (.seq (.draw [⟨some 46, none, .mov (.tmp 10)⟩,
 ⟨some 47, none, .mov (.tmp 11)⟩,
 ⟨some 48, none, .bin .leq (.tmp 46) (.tmp 47)⟩,
 ⟨some 49, none, .mov (.tmp 48)⟩,
 ⟨some 50, (some (49, true)), .mov (.tmp 0)⟩,
 ⟨some 51, (some (49, true)), .mov (.tmp 11)⟩,
 ⟨some 52, (some (49, true)), .iad 1 (.tmp 50) (.tmp 51)⟩,
 ⟨some 53, (some (49, true)), .ld1 (.tmp 52)⟩,
 ⟨some 54, (some (49, true)), .mov (.tmp 0)⟩,
 ⟨some 55, (some (49, true)), .mov (.tmp 1)⟩,
 ⟨some 56, (some (49, true)), .iad 1 (.tmp 54) (.tmp 55)⟩,
 ⟨some 57, (some (49, true)), .ld1 (.tmp 56)⟩,
 ⟨some 58, (some (49, true)), .call (.func 57) [(.tmp 53), (.tmp 57)]⟩,
 ⟨some 59, (some (49, true)), .un .not (.tmp 58)⟩,
 ⟨some 60, none, .pick (.tmp 49) (.tmp 59) (.const (.bool false))⟩] [(0, 1), (4, 5), (4, 8), (5, 8), (6, 8), (7, 8), (4, 9), (5, 9), (6, 9), (7, 9), (8, 9), (4, 10), (5, 10), (6, 10), (7, 10), (4, 11), (5, 11), (6, 11), (7, 11)])
 (.cond (.tmp 60)
 .skip
 (.exit 2)))
 (.block 3 (.ops [⟨some 61, none, .mov (.tmp 11)⟩,
 ⟨some 62, none, .bin .sub (.tmp 61) (.const (.int .i64 1))⟩,
 ⟨some 11, none, .mov (.tmp 62)⟩])))))
 (.seq (.seq (.ops [⟨some 63, none, .mov (.tmp 10)⟩,
 ⟨some 64, none, .mov (.tmp 11)⟩,
 ⟨some 65, none, .bin .gtr (.tmp 63) (.tmp 64)⟩])
 (.cond (.tmp 65)
 (.seq (.draw [⟨some 66, none, .mov (.tmp 0)⟩,
 ⟨some 67, none, .mov (.tmp 11)⟩,
 ⟨some 68, none, .mov (.tmp 0)⟩,
 ⟨some 69, none, .mov (.tmp 1)⟩,
 ⟨some 70, none, .mov (.tmp 0)⟩,
 ⟨some 71, none, .mov (.tmp 1)⟩,
 ⟨some 72, none, .iad 1 (.tmp 70) (.tmp 71)⟩,
 ⟨some 73, none, .ld1 (.tmp 72)⟩,
 ⟨some 74, none, .mov (.tmp 0)⟩,
 ⟨some 75, none, .mov (.tmp 11)⟩,
 ⟨some 76, none, .iad 1 (.tmp 74) (.tmp 75)⟩,
 ⟨some 77, none, .ld1 (.tmp 76)⟩,
 ⟨some 78, none, .iad 1 (.tmp 66) (.tmp 67)⟩,
 ⟨none, none, .st 1 (.tmp 78) (.tmp 73)⟩,
 ⟨some 79, none, .iad 1 (.tmp 68) (.tmp 69)⟩,
 ⟨none, none, .st 1 (.tmp 79) (.tmp 77)⟩] [(0, 1), (0, 2), (1, 2), (0, 3), (1, 3), (2, 3), (0, 4), (1, 4), (2, 4), (3, 4), (0, 5), (1, 5), (2, 5), (3, 5), (4, 5), (0, 6), (1, 6), (2, 6), (3, 6), (0, 7), (1, 7), (2, 7), (3, 7), (0, 8), (1, 8), (2, 8), (3, 8), (4, 8), (5, 8), (6, 8), (7, 8), (0, 9), (1, 9), (2, 9), (3, 9), (4, 9), (5, 9), (6, 9), (7, 9), (8, 9), (0, 10), (1, 10), (2, 10), (3, 10), (4, 10), (5, 10), (6, 10), (7, 10), (0, 11), (1, 11), (2, 11), (3, 11), (4, 11), (5, 11), (6, 11), (7, 11), (2, 12), (3, 12), (2, 13), (3, 13)])
 (.seq (.ops [⟨some 80, none, .mov (.tmp 11)⟩,
 ⟨some 8, none, .mov (.tmp 80)⟩,
 ⟨some 9, none, .mov (.const (.bool true))⟩])
 .ret))
 .skip))
 (.seq (.draw [⟨some 81, none, .mov (.tmp 0)⟩,
 ⟨some 82, none, .mov (.tmp 10)⟩,
 ⟨some 83, none, .mov (.tmp 0)⟩,
 ⟨some 84, none, .mov (.tmp 11)⟩,
 ⟨some 85, none, .mov (.tmp 0)⟩,
 ⟨some 86, none, .mov (.tmp 11)⟩,
 ⟨some 87, none, .iad 1 (.tmp 85) (.tmp 86)⟩,
 ⟨some 88, none, .ld1 (.tmp 87)⟩,
 ⟨some 89, none, .mov (.tmp 0)⟩,
 ⟨some 90, none, .mov (.tmp 10)⟩,
 ⟨some 91, none, .iad 1 (.tmp 89) (.tmp 90)⟩,
 ⟨some 92, none, .ld1 (.tmp 91)⟩,
 ⟨some 93, none, .iad 1 (.tmp 81) (.tmp 82)⟩,
 ⟨none, none, .st 1 (.tmp 93) (.tmp 88)⟩,
 ⟨some 94, none, .iad 1 (.tmp 83) (.tmp 84)⟩,
 ⟨none, none, .st 1 (.tmp 94) (.tmp 92)⟩] [(0, 1), (0, 2), (1, 2), (0, 3), (1, 3), (2, 3), (0, 4), (1, 4), (2, 4), (3, 4), (0, 5), (1, 5), (2, 5), (3, 5), (4, 5), (0, 6), (1, 6), (2, 6), (3, 6), (0, 7), (1, 7), (2, 7), (3, 7), (0, 8), (1, 8), (2, 8), (3, 8), (4, 8), (5, 8), (6, 8), (7, 8), (0, 9), (1, 9), (2, 9), (3, 9), (4, 9), (5, 9), (6, 9), (7, 9), (8, 9), (0, 10), (1, 10), (2, 10), (3, 10), (4, 10), (5, 10), (6, 10), (7, 10), (0, 11), (1, 11), (2, 11), (3, 11), (4, 11), (5, 11), (6, 11), (7, 11), (2, 12), (3, 12), (2, 13), (3, 13)])
 (.seq (.ops [⟨some 95, none, .mov (.tmp 10)⟩,
 ⟨some 96, none, .bin .add (.tmp 95) (.const (.int .i64 1))⟩,
 ⟨some 10, none, .mov (.tmp 96)⟩])
 (.seq (.ops [⟨some 97, none, .mov (.tmp 11)⟩,
 ⟨some 98, none, .bin .sub (.tmp 97) (.const (.int .i64 1))⟩,
 ⟨some 11, none, .mov (.tmp 98)⟩])
 (.seq (.block 4 (.loop (.block 5 (.seq (.block 6 (.loop (.seq (.seq (.draw [⟨some 99, none, .mov (.tmp 10)⟩,
 ⟨some 100, none, .mov (.tmp 11)⟩,
 ⟨some 101, none, .bin .leq (.tmp 99) (.tmp 100)⟩,
 ⟨some 102, none, .mov (.tmp 101)⟩,
 ⟨some 103, (some (102, true)), .mov (.tmp 0)⟩,
 ⟨some 104, (some (102, true)), .mov (.tmp 10)⟩,
 ⟨some 105, (some (102, true)), .iad 1 (.tmp 103) (.tmp 104)⟩,
 ⟨some 106, (some (102, true)), .ld1 (.tmp 105)⟩,
 ⟨some 107, (some (102, true)), .mov (.tmp 0)⟩,
 ⟨some 108, (some (102, true)), .mov (.tmp 1)⟩,
 ⟨some 109, (some (102, true)), .iad 1 (.tmp 107) (.tmp 108)⟩,
 ⟨some 110, (some (102, true)), .ld1 (.tmp 109)⟩,
 ⟨some 111, (some (102, true)), .call (.func 57) [(.tmp 106), (.tmp 110)]⟩,
 ⟨some 112, none, .pick (.tmp 102) (.tmp 111) (.const (.bool false))⟩] [(0, 1), (4, 5), (4, 8), (5, 8), (6, 8), (7, 8), (4, 9), (5, 9), (6, 9), (7, 9), (8, 9), (4, 10), (5, 10), (6, 10), (7, 10), (4, 11), (5, 11), (6, 11), (7, 11)])
 (.cond (.tmp 112)
 .skip
 (.exit 6)))
 (.block 7 (.ops [⟨some 113, none, .mov (.tmp 10)⟩,
 ⟨some 114, none, .bin .add (.tmp 113) (.const (.int .i64 1))⟩,
 ⟨some 10, none, .mov (.tmp 114)⟩])))))
 (.seq (.block 8 (.loop (.seq (.seq (.draw [⟨some 115, none, .mov (.tmp 10)⟩,
 ⟨some 116, none, .mov (.tmp 11)⟩,
 ⟨some 117, none, .bin .leq (.tmp 115) (.tmp 116)⟩,
 ⟨some 118, none, .mov (.tmp 117)⟩,
 ⟨some 119, (some (118, true)), .mov (.tmp 0)⟩,
 ⟨some 120, (some (118, true)), .mov (.tmp 11)⟩,
 ⟨some 121, (some (118, true)), .iad 1 (.tmp 119) (.tmp 120)⟩,
 ⟨some 122, (some (118, true)), .ld1 (.tmp 121)⟩,
 ⟨some 123, (some (118, true)), .mov (.tmp 0)⟩,
 ⟨some 124, (some (118, true)), .mov (.tmp 1)⟩,
 ⟨some 125, (some (118, true)), .iad 1 (.tmp 123) (.tmp 124)⟩,
 ⟨some 126, (some (118, true)), .ld1 (.tmp 125)⟩,
 ⟨some 127, (some (118, true)), .call (.func 57) [(.tmp 122), (.tmp 126)]⟩,
 ⟨some 128, (some (118, true)), .un .not (.tmp 127)⟩,
 ⟨some 129, none, .pick (.tmp 118) (.tmp 128) (.const (.bool false))⟩] [(0, 1), (4, 5), (4, 8), (5, 8), (6, 8), (7, 8), (4, 9), (5, 9), (6, 9), (7, 9), (8, 9), (4, 10), (5, 10), (6, 10), (7, 10), (4, 11), (5, 11), (6, 11), (7, 11)])
 (.cond (.tmp 129)
 .skip
 (.exit 8)))
 (.block 9 (.ops [⟨some 130, none, .mov (.tmp 11)⟩,
 ⟨some 131, none, .bin .sub (.tmp 130) (.const (.int .i64 1))⟩,
 ⟨some 11, none, .mov (.tmp 131)⟩])))))
 (.seq (.seq (.ops [⟨some 132, none, .mov (.tmp 10)⟩,
 ⟨some 133, none, .mov (.tmp 11)⟩,
 ⟨some 134, none, .bin .gtr (.tmp 132) (.tmp 133)⟩])
 (.cond (.tmp 134)
 (.exit 4)
 .skip))
 (.seq (.draw [⟨some 135, none, .mov (.tmp 0)⟩,
 ⟨some 136, none, .mov (.tmp 10)⟩,
 ⟨some 137, none, .mov (.tmp 0)⟩,
 ⟨some 138, none, .mov (.tmp 11)⟩,
 ⟨some 139, none, .mov (.tmp 0)⟩,
 ⟨some 140, none, .mov (.tmp 11)⟩,
 ⟨some 141, none, .iad 1 (.tmp 139) (.tmp 140)⟩,
 ⟨some 142, none, .ld1 (.tmp 141)⟩,
 ⟨some 143, none, .mov (.tmp 0)⟩,
 ⟨some 144, none, .mov (.tmp 10)⟩,
 ⟨some 145, none, .iad 1 (.tmp 143) (.tmp 144)⟩,
 ⟨some 146, none, .ld1 (.tmp 145)⟩,
 ⟨some 147, none, .iad 1 (.tmp 135) (.tmp 136)⟩,
 ⟨none, none, .st 1 (.tmp 147) (.tmp 142)⟩,
 ⟨some 148, none, .iad 1 (.tmp 137) (.tmp 138)⟩,
 ⟨none, none, .st 1 (.tmp 148) (.tmp 146)⟩] [(0, 1), (0, 2), (1, 2), (0, 3), (1, 3), (2, 3), (0, 4), (1, 4), (2, 4), (3, 4), (0, 5), (1, 5), (2, 5), (3, 5), (4, 5), (0, 6), (1, 6), (2, 6), (3, 6), (0, 7), (1, 7), (2, 7), (3, 7), (0, 8), (1, 8), (2, 8), (3, 8), (4, 8), (5, 8), (6, 8), (7, 8), (0, 9), (1, 9), (2, 9), (3, 9), (4, 9), (5, 9), (6, 9), (7, 9), (8, 9), (0, 10), (1, 10), (2, 10), (3, 10), (4, 10), (5, 10), (6, 10), (7, 10), (0, 11), (1, 11), (2, 11), (3, 11), (4, 11), (5, 11), (6, 11), (7, 11), (2, 12), (3, 12), (2, 13), (3, 13)])
 (.seq (.ops [⟨some 149, none, .mov (.tmp 10)⟩,
 ⟨some 150, none, .bin .add (.tmp 149) (.const (.int .i64 1))⟩,
 ⟨some 10, none, .mov (.tmp 150)⟩])
 (.ops [⟨some 151, none, .mov (.tmp 11)⟩,
 ⟨some 152, none, .bin .sub (.tmp 151) (.const (.int .i64 1))⟩,
 ⟨some 11, none, .mov (.tmp 152)⟩])))))))))
 (.seq (.draw [⟨some 153, none, .mov (.tmp 0)⟩,
 ⟨some 154, none, .mov (.tmp 11)⟩,
 ⟨some 155, none, .mov (.tmp 0)⟩,
 ⟨some 156, none, .mov (.tmp 1)⟩,
 ⟨some 157, none, .mov (.tmp 0)⟩,
 ⟨some 158, none, .mov (.tmp 1)⟩,
 ⟨some 159, none, .iad 1 (.tmp 157) (.tmp 158)⟩,
 ⟨some 160, none, .ld1 (.tmp 159)⟩,
 ⟨some 161, none, .mov (.tmp 0)⟩,
 ⟨some 162, none, .mov (.tmp 11)⟩,
 ⟨some 163, none, .iad 1 (.tmp 161) (.tmp 162)⟩,
 ⟨some 164, none, .ld1 (.tmp 163)⟩,
 ⟨some 165, none, .iad 1 (.tmp 153) (.tmp 154)⟩,
 ⟨none, none, .st 1 (.tmp 165) (.tmp 160)⟩,
 ⟨some 166, none, .iad 1 (.tmp 155) (.tmp 156)⟩,
 ⟨none, none, .st 1 (.tmp 166) (.tmp 164)⟩] [(0, 1), (0, 2), (1, 2), (0, 3), (1, 3), (2, 3), (0, 4), (1, 4), (2, 4), (3, 4), (0, 5), (1, 5), (2, 5), (3, 5), (4, 5), (0, 6), (1, 6), (2, 6), (3, 6), (0, 7), (1, 7), (2, 7), (3, 7), (0, 8), (1, 8), (2, 8), (3, 8), (4, 8), (5, 8), (6, 8), (7, 8), (0, 9), (1, 9), (2, 9), (3, 9), (4, 9), (5, 9), (6, 9), (7, 9), (8, 9), (0, 10), (1, 10), (2, 10), (3, 10), (4, 10), (5, 10), (6, 10), (7, 10), (0, 11), (1, 11), (2, 11), (3, 11), (4, 11), (5, 11), (6, 11), (7, 11), (2, 12), (3, 12), (2, 13), (3, 13)])
 (.seq (.ops [⟨some 167, none, .mov (.tmp 11)⟩,
 ⟨some 8, none, .mov (.tmp 167)⟩,
 ⟨some 9, none, .mov (.const (.bool false))⟩])
 .ret))))))))))))⟩
theorem ok59 : compF Tryz.prog Tryz.f59 = some c59 := by kernel_rfl
def c60 : CF := ⟨19, [.tmp 2],
 (.seq (.ops [⟨some 2, none, .mov (.const (.int .i64 0))⟩])
 (.seq (.seq (.ops [⟨some 3, none, .mov (.tmp 0)⟩,
 ⟨some 4, none, .bin .geq (.tmp 3) (.const (.int .u32 65536))⟩])
 (.cond (.tmp 4)
 (.seq (.ops [⟨some 5, none, .mov (.tmp 0)⟩,
 ⟨some 6, none, .bin .shr (.tmp 5) (.const (.int .u64 16))⟩,
 ⟨some 0, none, .mov (.tmp 6)⟩])
 (.ops [⟨some 2, none, .mov (.const (.int .i64 16))⟩]))
 .skip))
 (.seq (.seq (.ops [⟨some 7, none, .mov (.tmp 0)⟩,
 ⟨some 8, none, .bin .geq (.tmp 7) (.const (.int .u32 256))⟩])
 (.cond (.tmp 8)
 (.seq (.ops [⟨some 9, none, .mov (.tmp 0)⟩,
 ⟨some 10, none, .bin .shr (.tmp 9) (.const (.int .u64 8))⟩,
 ⟨some 0, none, .mov (.tmp 10)⟩])
 (.ops [⟨some 11, none, .mov (.tmp 2)⟩,
 ⟨some 12, none, .bin .add (.tmp 11) (.const (.int .i64 8))⟩,
 ⟨some 2, none, .mov (.tmp 12)⟩]))
 .skip))
 (.seq (.ops [⟨some 13, none, .mov (.tmp 2)⟩,
 ⟨some 14, none, .mov (.tmp 0)⟩,
 ⟨some 15, none, .cvi .u8 (.tmp 14)⟩,
 ⟨some 16, none, .ids (.const (.string ⟨#[0, 1, 2, 2, 3, 3, 3, 3, 4, 4, 4, 4, 4, 4, 4, 4, 5, 5, 5, 5, 5, 5, 5, 5, 5, 5, 5, 5, 5, 5, 5, 5, 6, 6, 6, 6, 6, 6, 6, 6, 6, 6, 6, 6, 6, 6, 6, 6, 6, 6, 6, 6, 6, 6, 6, 6, 6, 6, 6, 6, 6, 6, 6, 6, 7, 7, 7, 7, 7, 7, 7, 7, 7, 7, 7, 7, 7, 7, 7, 7, 7, 7, 7, 7, 7, 7, 7, 7, 7, 7, 7, 7, 7, 7, 7, 7, 7, 7, 7, 7, 7, 7, 7, 7, 7, 7, 7, 7, 7, 7, 7, 7, 7, 7, 7, 7, 7, 7, 7, 7, 7, 7, 7, 7, 7, 7, 7, 7, 8, 8, 8, 8, 8, 8, 8, 8, 8, 8, 8, 8, 8, 8, 8, 8, 8, 8, 8, 8, 8, 8, 8, 8, 8, 8, 8, 8, 8, 8, 8, 8, 8, 8, 8, 8, 8, 8, 8, 8, 8, 8, 8, 8, 8, 8, 8, 8, 8, 8, 8, 8, 8, 8, 8, 8, 8, 8, 8, 8, 8, 8, 8, 8, 8, 8, 8, 8, 8, 8, 8, 8, 8, 8, 8, 8, 8, 8, 8, 8, 8, 8, 8, 8, 8, 8, 8, 8, 8, 8, 8, 8, 8, 8, 8, 8, 8, 8, 8, 8, 8, 8, 8, 8, 8, 8, 8, 8, 8, 8, 8, 8, 8, 8, 8, 8, 8, 8, 8, 8, 8, 8, 8, 8, 8, 8, 8, 8]⟩)) (.tmp 15)⟩,
 ⟨some 17, none, .cvi .i64 (.tmp 16)⟩,
 ⟨some 18, none, .bin .add (.tmp 13) (.tmp 17)⟩,
 ⟨some 2, none, .mov (.tmp 18)⟩])
 .ret))))⟩
theorem ok60 : compF Tryz.prog Tryz.f60 = some c60 := by kernel_rfl
def c61 : CF := ⟨25, [.tmp 2],
 (.seq (.ops [⟨some 2, none, .mov (.const (.int .i64 0))⟩])
 (.seq (.seq (.ops [⟨some 3, none, .mov (.tmp 0)⟩,
 ⟨some 4, none, .bin .geq (.tmp 3) (.const (.int .u64 4294967296))⟩])
 (.cond (.tmp 4)
 (.seq (.ops [⟨some 5, none, .mov (.tmp 0)⟩,
 ⟨some 6, none, .bin .shr (.tmp 5) (.const (.int .u64 32))⟩,
 ⟨some 0, none, .mov (.tmp 6)⟩])
 (.ops [⟨some 2, none, .mov (.const (.int .i64 32))⟩]))
 .skip))
 (.seq (.seq (.ops [⟨some 7, none, .mov (.tmp 0)⟩,
 ⟨some 8, none, .bin .geq (.tmp 7) (.const (.int .u64 65536))⟩])
 (.cond (.tmp 8)
 (.seq (.ops [⟨some 9, none, .mov (.tmp 0)⟩,
 ⟨some 10, none, .bin .shr (.tmp 9) (.const (.int .u64 16))⟩,
 ⟨some 0, none, .mov (.tmp 10)⟩])
 (.ops [⟨some 11, none, .mov (.tmp 2)⟩,
 ⟨some 12, none, .bin .add (.tmp 11) (.const (.int .i64 16))⟩,
 ⟨some 2, none, .mov (.tmp 12)⟩]))
 .skip))
 (.seq (.seq (.ops [⟨some 13, none, .mov (.tmp 0)⟩,
 ⟨some 14, none, .bin .geq (.tmp 13) (.const (.int .u64 256))⟩])
 (.cond (.tmp 14)
 (.seq (.ops [⟨some 15, none, .mov (.tmp 0)⟩,
 ⟨some 16, none, .bin .shr (.tmp 15) (.const (.int .u64 8))⟩,
 ⟨some 0, none, .mov (.tmp 16)⟩])
 (.ops [⟨some 17, none, .mov (.tmp 2)⟩,
 ⟨some 18, none, .bin .add (.tmp 17) (.const (.int .i64 8))⟩,
 ⟨some 2, none, .mov (.tmp 18)⟩]))
 .skip))
 (.seq (.ops [⟨some 19, none, .mov (.tmp 2)⟩,
 ⟨some 20, none, .mov (.tmp 0)⟩,
 ⟨some 21, none, .cvi .u8 (.tmp 20)⟩,
 ⟨some 22, none, .ids (.const (.string ⟨#[0, 1, 2, 2, 3, 3, 3, 3, 4, 4, 4, 4, 4, 4, 4, 4, 5, 5, 5, 5, 5, 5, 5, 5, 5, 5, 5, 5, 5, 5, 5, 5, 6, 6, 6, 6, 6, 6, 6, 6, 6, 6, 6, 6, 6, 6, 6, 6, 6, 6, 6, 6, 6, 6, 6, 6, 6, 6, 6, 6, 6, 6, 6, 6, 7, 7, 7, 7, 7, 7, 7, 7, 7, 7, 7, 7, 7, 7, 7, 7, 7, 7, 7, 7, 7, 7, 7, 7, 7, 7, 7, 7, 7, 7, 7, 7, 7, 7, 7, 7, 7, 7, 7, 7, 7, 7, 7, 7, 7, 7, 7, 7, 7, 7, 7, 7, 7, 7, 7, 7, 7, 7, 7, 7, 7, 7, 7, 7, 8, 8, 8, 8, 8, 8, 8, 8, 8, 8, 8, 8, 8, 8, 8, 8, 8, 8, 8, 8, 8, 8, 8, 8, 8, 8, 8, 8, 8, 8, 8, 8, 8, 8, 8, 8, 8, 8, 8, 8, 8, 8, 8, 8, 8, 8, 8, 8, 8, 8, 8, 8, 8, 8, 8, 8, 8, 8, 8, 8, 8, 8, 8, 8, 8, 8, 8, 8, 8, 8, 8, 8, 8, 8, 8, 8, 8, 8, 8, 8, 8, 8, 8, 8, 8, 8, 8, 8, 8, 8, 8, 8, 8, 8, 8, 8, 8, 8, 8, 8, 8, 8, 8, 8, 8, 8, 8, 8, 8, 8, 8, 8, 8, 8, 8, 8, 8, 8, 8, 8, 8, 8, 8, 8, 8, 8, 8, 8]⟩)) (.tmp 21)⟩,
 ⟨some 23, none, .cvi .i64 (.tmp 22)⟩,
 ⟨some 24, none, .bin .add (.tmp 19) (.tmp 23)⟩,
 ⟨some 2, none, .mov (.tmp 24)⟩])
 .ret)))))⟩
theorem ok61 : compF Tryz.prog Tryz.f61 = some c61 := by kernel_rfl
def c64 : CF := ⟨15, [.tmp 2],
 (.seq (.ops [⟨some 2, none, .mov (.const (.string ⟨#[]⟩))⟩])
 (.seq (.seq (.ops [⟨some 3, none, .mov (.tmp 0)⟩,
 ⟨some 4, none, .bin .lss (.tmp 3) (.const (.int .i64 10))⟩])
 (.cond (.tmp 4)
 (.seq (.ops [⟨some 5, none, .mov (.tmp 0)⟩,
 ⟨some 6, none, .mov (.tmp 0)⟩,
 ⟨some 7, none, .bin .add (.tmp 6) (.const (.int .i64 1))⟩,
 ⟨some 8, none, .sls (.const (.string ⟨#[48, 49, 50, 51, 52, 53, 54, 55, 56, 57, 97, 98, 99, 100, 101, 102, 103, 104, 105, 106, 107, 108, 109, 110, 111, 112, 113, 114, 115, 116, 117, 118, 119, 120, 121, 122]⟩)) (some (.tmp 5)) (some (.tmp 7))⟩,
 ⟨some 2, none, .mov (.tmp 8)⟩])
 .ret)
 .skip))
 (.seq (.ops [⟨some 9, none, .mov (.tmp 0)⟩,
 ⟨some 10, none, .bin .mul (.tmp 9) (.const (.int .i64 2))⟩,
 ⟨some 11, none, .mov (.tmp 0)⟩,
 ⟨some 12, none, .bin .mul (.tmp 11) (.const (.int .i64 2))⟩,
 ⟨some 13, none, .bin .add (.tmp 12) (.const (.int .i64 2))⟩,
 ⟨some 14, none, .sls (.const (.string ⟨#[48, 48, 48, 49, 48, 50, 48, 51, 48, 52, 48, 53, 48, 54, 48, 55, 48, 56, 48, 57, 49, 48, 49, 49, 49, 50, 49, 51, 49, 52, 49, 53, 49, 54, 49, 55, 49, 56, 49, 57, 50, 48, 50, 49, 50, 50, 50, 51, 50, 52, 50, 53, 50, 54, 50, 55, 50, 56, 50, 57, 51, 48, 51, 49, 51, 50, 51, 51, 51, 52, 51, 53, 51, 54, 51, 55, 51, 56, 51, 57, 52, 48, 52, 49, 52, 50, 52, 51, 52, 52, 52, 53, 52, 54, 52, 55, 52, 56, 52, 57, 53, 48, 53, 49, 53, 50, 53, 51, 53, 52, 53, 53, 53, 54, 53, 55, 53, 56, 53, 57, 54, 48, 54, 49, 54, 50, 54, 51, 54, 52, 54, 53, 54, 54, 54, 55, 54, 56, 54, 57, 55, 48, 55, 49, 55, 50, 55, 51, 55, 52, 55, 53, 55, 54, 55, 55, 55, 56, 55, 57, 56, 48, 56, 49, 56, 50, 56, 51, 56, 52, 56, 53, 56, 54, 56, 55, 56, 56, 56, 57, 57, 48, 57, 49, 57, 50, 57, 51, 57, 52, 57, 53, 57, 54, 57, 55, 57, 56, 57, 57]⟩)) (some (.tmp 10)) (some (.tmp 13))⟩,
 ⟨some 2, none, .mov (.tmp 14)⟩])
 .ret)))⟩
theorem ok64 : compF Tryz.prog Tryz.f64 = some c64 := by kernel_rfl
def c65 : CF := ⟨15, [.tmp 2],
 (.seq (.ops [⟨some 2, none, .mov (.const (.int .i64 0))⟩])
 (.seq (.ops [⟨some 4, none, .mov (.tmp 0)⟩,
 ⟨some 5, none, .call (.func 61) [(.tmp 4)]⟩,
 ⟨some 6, none, .call (.func 83) [(.tmp 5)]⟩,
 ⟨some 3, none, .mov (.tmp 6)⟩])
 (.seq (.ops [⟨some 7, none, .mov (.tmp 3)⟩,
 ⟨some 8, none, .mov (.tmp 0)⟩,
 ⟨some 9, none, .mov (.tmp 3)⟩,
 ⟨some 10, none, .iaa 20 1 (.global 0) (.tmp 9)⟩,
 ⟨some 11, none, .ld1 (.tmp 10)⟩,
 ⟨some 12, none, .bin .geq (.tmp 8) (.tmp 11)⟩,
 ⟨some 13, none, .call (.func 84) [(.tmp 12)]⟩,
 ⟨some 14, none, .bin .add (.tmp 7) (.tmp 13)⟩,
 ⟨some 2, none, .mov (.tmp 14)⟩])
 .ret)))⟩
theorem ok65 : compF Tryz.prog Tryz.f65 = some c65 := by kernel_rfl
def c66 : CF := ⟨167, [],
 (.seq (.ops [⟨some 17, none, .mov (.tmp 0)⟩,
 ⟨some 18, none, .lnl (.tmp 17)⟩,
 ⟨some 4, none, .mov (.tmp 18)⟩])
 (.seq (.block 0 (.loop (.seq (.seq (.ops [⟨some 19, none, .mov (.tmp 4)⟩,
 ⟨some 20, none, .bin .geq (.tmp 19) (.const (.int .i64 8))⟩])
 (.cond (.tmp 20)
 .skip
 (.exit 0)))
 (.block 1 (.seq (.ops [⟨some 21, none, .mov (.tmp 1)⟩,
 ⟨some 22, none, .bin .rem (.tmp 21) (.const (.int .u64 100000000))⟩,
 ⟨some 23, none, .cvi .u32 (.tmp 22)⟩,
 ⟨some 5, none, .mov (.tmp 23)⟩])
 (.seq (.ops [⟨some 24, none, .mov (.tmp 1)⟩,
 ⟨some 25, none, .bin .quo (.tmp 24) (.const (.int .u64 100000000))⟩,
 ⟨some 1, none, .mov (.tmp 25)⟩])
 (.seq (.ops [⟨some 26, none, .mov (.tmp 5)⟩,
 ⟨some 27, none, .bin .quo (.tmp 26) (.const (.int .u32 10000))⟩,
 ⟨some 28, none, .mov (.tmp 5)⟩,
 ⟨some 29, none, .bin .rem (.tmp 28) (.const (.int .u32 10000))⟩,
 ⟨some 6, none, .mov (.tmp 27)⟩,
 ⟨some 7, none, .mov (.tmp 29)⟩])
 (.seq (.ops [⟨some 30, none, .mov (.tmp 7)⟩,
 ⟨some 31, none, .bin .quo (.tmp 30) (.const (.int .u32 100))⟩,
 ⟨some 32, none, .bin .mul (.tmp 31) (.const (.int .u32 2))⟩,
 ⟨some 33, none, .mov (.tmp 7)⟩,
 ⟨some 34, none, .bin .rem (.tmp 33) (.const (.int .u32 100))⟩,
 ⟨some 35, none, .bin .mul (.tmp 34) (.const (.int .u32 2))⟩,
 ⟨some 8, none, .mov (.tmp 32)⟩,
 ⟨some 9, none, .mov (.tmp 35)⟩])
 (.seq (.ops [⟨some 36, none, .mov (.tmp 6)⟩,
 ⟨some 37, none, .bin .quo (.tmp 36) (.const (.int .u32 100))⟩,
 ⟨some 38, none, .bin .mul (.tmp 37) (.const (.int .u32 2))⟩,
 ⟨some 39, none, .mov (.tmp 6)⟩,
 ⟨some 40, none, .bin .rem (.tmp 39) (.const (.int .u32 100))⟩,
 ⟨some 41, none, .bin .mul (.tmp 40) (.const (.int .u32 2))⟩,
 ⟨some 10, none, .mov (.tmp 38)⟩,
 ⟨some 11, none, .mov (.tmp 41)⟩])
 (.seq (.draw [⟨some 42, none, .mov (.tmp 0)⟩,
 ⟨some 43, none, .mov (.tmp 4)⟩,
 ⟨some 44, none, .bin .sub (.tmp 43) (.const (.int .i64 1))⟩,
 ⟨some 45, none, .mov (.tmp 0)⟩,
 ⟨some 46, none, .mov (.tmp 4)⟩,
 ⟨some 47, none, .bin .sub (.tmp 46) (.const (.int .i64 2))⟩,
 ⟨some 48, none, .mov (.tmp 9)⟩,
 ⟨some 49, none, .bin .add (.tmp 48) (.const (.int .u32 1))⟩,
 ⟨some 50, none, .ids (.const (.string ⟨#[48, 48, 48, 49, 48, 50, 48, 51, 48, 52, 48, 53, 48, 54, 48, 55, 48, 56, 48, 57, 49, 48, 49, 49, 49, 50, 49, 51, 49, 52, 49, 53, 49, 54, 49, 55, 49, 56, 49, 57, 50, 48, 50, 49, 50, 50, 50, 51, 50, 52, 50, 53, 50, 54, 50, 55, 50, 56, 50, 57, 51, 48, 51, 49, 51, 50, 51, 51, 51, 52, 51, 53, 51, 54, 51, 55, 51, 56, 51, 57, 52, 48, 52, 49, 52, 50, 52, 51, 52, 52, 52, 53, 52, 54, 52, 55, 52, 56, 52, 57, 53, 48, 53, 49, 53, 50, 53, 51, 53, 52, 53, 53, 53, 54, 53, 55, 53, 56, 53, 57, 54, 48, 54, 49, 54, 50, 54, 51, 54, 52, 54, 53, 54, 54, 54, 55, 54, 56, 54, 57, 55, 48, 55, 49, 55, 50, 55, 51, 55, 52, 55, 53, 55, 54, 55, 55, 55, 56, 55, 57, 56, 48, 56, 49, 56, 50, 56, 51, 56, 52, 56, 53, 56, 54, 56, 55, 56, 56, 56, 57, 57, 48, 57, 49, 57, 50, 57, 51, 57, 52, 57, 53, 57, 54, 57, 55, 57, 56, 57, 57]⟩)) (.tmp 49)⟩,
 ⟨some 51, none, .mov (.tmp 9)⟩,
 ⟨some 52, none, .ids (.const (.string ⟨#[48, 48, 48, 49, 48, 50, 48, 51, 48, 52, 48, 53, 48, 54, 48, 55, 48, 56, 48, 57, 49, 48, 49, 49, 49, 50, 49, 51, 49, 52, 49, 53, 49, 54, 49, 55, 49, 56, 49, 57, 50, 48, 50, 49, 50, 50, 50, 51, 50, 52, 50, 53, 50, 54, 50, 55, 50, 56, 50, 57, 51, 48, 51, 49, 51, 50, 51, 51, 51, 52, 51, 53, 51, 54, 51, 55, 51, 56, 51, 57, 52, 48, 52, 49, 52, 50, 52, 51, 52, 52, 52, 53, 52, 54, 52, 55, 52, 56, 52, 57, 53, 48, 53, 49, 53, 50, 53, 51, 53, 52, 53, 53, 53, 54, 53, 55, 53, 56, 53, 57, 54, 48, 54, 49, 54, 50, 54, 51, 54, 52, 54, 53, 54, 54, 54, 55, 54, 56, 54, 57, 55, 48, 55, 49, 55, 50, 55, 51, 55, 52, 55, 53, 55, 54, 55, 55, 55, 56, 55, 57, 56, 48, 56, 49, 56, 50, 56, 51, 56, 52, 56, 53, 56, 54, 56, 55, 56, 56, 56, 57, 57, 48, 57, 49, 57, 50, 57, 51, 57, 52, 57, 53, 57, 54, 57, 55, 57, 56, 57, 57]⟩)) (.tmp 51)⟩,
 ⟨some 53, none, .iad 1 (.tmp 42) (.tmp 44)⟩,
 ⟨none, none, .st 1 (.tmp 53) (.tmp 50)⟩,
 ⟨some 54, none, .iad 1 (.tmp 45) (.tmp 47)⟩,
 ⟨none, none, .st 1 (.tmp 54) (.tmp 52)⟩] [(0, 1), (0, 2), (0, 3), (1, 3), (2, 3), (0, 4), (1, 4), (2, 4), (3, 4), (0, 5), (1, 5), (2, 5), (3, 5), (0, 6), (1, 6), (2, 6), (3, 6), (4, 6), (5, 6), (0, 7), (1, 7), (2, 7), (3, 7), (4, 7), (5, 7), (0, 8), (1, 8), (2, 8), (3, 8), (4, 8), (5, 8), (0, 9), (1, 9), (2, 9), (3, 9), (4, 9), (5, 9), (6, 9), (7, 9), (8, 9), (0, 10), (1, 10), (2, 10), (3, 10), (4, 10), (5, 10), (6, 10), (7, 10), (8, 10), (3, 11), (4, 11), (5, 11), (9, 11), (10, 11), (3, 12), (4, 12), (5, 12), (9, 12), (10, 12)])
 (.seq (.draw [⟨some 55, none, .mov (.tmp 0)⟩,
 ⟨some 56, none, .mov (.tmp 4)⟩,
 ⟨some 57, none, .bin .sub (.tmp 56) (.const (.int .i64 3))⟩,
 ⟨some 58, none, .mov (.tmp 0)⟩,
 ⟨some 59, none, .mov (.tmp 4)⟩,
 ⟨some 60, none, .bin .sub (.tmp 59) (.const (.int .i64 4))⟩,
 ⟨some 61, none, .mov (.tmp 8)⟩,
 ⟨some 62, none, .bin .add (.tmp 61) (.const (.int .u32 1))⟩,
 ⟨some 63, none, .ids (.const (.string ⟨#[48, 48, 48, 49, 48, 50, 48, 51, 48, 52, 48, 53, 48, 54, 48, 55, 48, 56, 48, 57, 49, 48, 49, 49, 49, 50, 49, 51, 49, 52, 49, 53, 49, 54, 49, 55, 49, 56, 49, 57, 50, 48, 50, 49, 50, 50, 50, 51, 50, 52, 50, 53, 50, 54, 50, 55, 50, 56, 50, 57, 51, 48, 51, 49, 51, 50, 51, 51, 51, 52, 51, 53, 51, 54, 51, 55, 51, 56, 51, 57, 52, 48, 52, 49, 52, 50, 52, 51, 52, 52, 52, 53, 52, 54, 52, 55, 52, 56, 52, 57, 53, 48, 53, 49, 53, 50, 53, 51, 53, 52, 53, 53, 53, 54, 53, 55, 53, 56, 53, 57, 54, 48, 54, 49, 54, 50, 54, 51, 54, 52, 54, 53, 54, 54, 54, 55, 54, 56, 54, 57, 55, 48, 55, 49, 55, 50, 55, 51, 55, 52, 55, 53, 55, 54, 55, 55, 55, 56, 55, 57, 56, 48, 56, 49, 56, 50, 56, 51, 56, 52, 56, 53, 56, 54, 56, 55, 56, 56, 56, 57, 57, 48, 57, 49, 57, 50, 57, 51, 57, 52, 57, 53, 57, 54, 57, 55, 57, 56, 57, 57]⟩)) (.tmp 62)⟩,
 ⟨some 64, none, .mov (.tmp 8)⟩,
 ⟨some 65, none, .ids (.const (.string ⟨#[48, 48, 48, 49, 48, 50, 48, 51, 48, 52, 48, 53, 48, 54, 48, 55, 48, 56, 48, 57, 49, 48, 49, 49, 49, 50, 49, 51, 49, 52, 49, 53, 49, 54, 49, 55, 49, 56, 49, 57, 50, 48, 50, 49, 50, 50, 50, 51, 50, 52, 50, 53, 50, 54, 50, 55, 50, 56, 50, 57, 51, 48, 51, 49, 51, 50, 51, 51, 51, 52, 51, 53, 51, 54, 51, 55, 51, 56, 51, 57, 52, 48, 52, 49, 52, 50, 52, 51, 52, 52, 52, 53, 52, 54, 52, 55, 52, 56, 52, 57, 53, 48, 53, 49, 53, 50, 53, 51, 53, 52, 53, 53, 53, 54, 53, 55, 53, 56, 53, 57, 54, 48, 54, 49, 54, 50, 54, 51, 54, 52, 54, 53, 54, 54, 54, 55, 54, 56, 54, 57, 55, 48, 55, 49, 55, 50, 55, 51, 55, 52, 55, 53, 55, 54, 55, 55, 55, 56, 55, 57, 56, 48, 56, 49, 56, 50, 56, 51, 56, 52, 56, 53, 56, 54, 56, 55, 56, 56, 56, 57, 57, 48, 57, 49, 57, 50, 57, 51, 57, 52, 57, 53, 57, 54, 57, 55, 57, 56, 57, 57]⟩)) (.tmp 64)⟩,
 ⟨some 66, none, .iad 1 (.tmp 55) (.tmp 57)⟩,
 ⟨none, none, .st 1 (.tmp 66) (.tmp 63)⟩,
 ⟨some 67, none, .iad 1 (.tmp 58) (.tmp 60)⟩,
 ⟨none, none, .st 1 (.tmp 67) (.tmp 65)⟩] [(0, 1), (0, 2), (0, 3), (1, 3), (2, 3), (0, 4), (1, 4), (2, 4), (3, 4), (0, 5), (1, 5), (2, 5), (3, 5), (0, 6), (1, 6), (2, 6), (3, 6), (4, 6), (5, 6), (0, 7), (1, 7), (2, 7), (3, 7), (4, 7), (5, 7), (0, 8), (1, 8), (2, 8), (3, 8), (4, 8), (5, 8), (0, 9), (1, 9), (2, 9), (3, 9), (4, 9), (5, 9), (6, 9), (7, 9), (8, 9), (0, 10), (1, 10), (2, 10), (3, 10), (4, 10), (5, 10), (6, 10), (7, 10), (8, 10), (3, 11), (4, 11), (5, 11), (9, 11), (10, 11), (3, 12), (4, 12), (5, 12), (9, 12), (10, 12)])
 (.seq (.draw [⟨some 68, none, .mov (.tmp 0)⟩,
 ⟨some 69, none, .mov (.tmp 4)⟩,
 ⟨some 70, none, .bin .sub (.tmp 69) (.const (.int .i64 5))⟩,
 ⟨some 71, none, .mov (.tmp 0)⟩,
 ⟨some 72, none, .mov (.tmp 4)⟩,
 ⟨some 73, none, .bin .sub (.tmp 72) (.const (.int .i64 6))⟩,
 ⟨some 74, none, .mov (.tmp 11)⟩,
 ⟨some 75, none, .bin .add (.tmp 74) (.const (.int .u32 1))⟩,
 ⟨some 76, none, .ids (.const (.string ⟨#[48, 48, 48, 49, 48, 50, 48, 51, 48, 52, 48, 53, 48, 54, 48, 55, 48, 56, 48, 57, 49, 48, 49, 49, 49, 50, 49, 51, 49, 52, 49, 53, 49, 54, 49, 55, 49, 56, 49, 57, 50, 48, 50, 49, 50, 50, 50, 51, 50, 52, 50, 53, 50, 54, 50, 55, 50, 56, 50, 57, 51, 48, 51, 49, 51, 50, 51, 51, 51, 52, 51, 53, 51, 54, 51, 55, 51, 56, 51, 57, 52, 48, 52, 49, 52, 50, 52, 51, 52, 52, 52, 53, 52, 54, 52, 55, 52, 56, 52, 57, 53, 48, 53, 49, 53, 50, 53, 51, 53, 52, 53, 53, 53, 54, 53, 55, 53, 56, 53, 57, 54, 48, 54, 49, 54, 50, 54, 51, 54, 52, 54, 53, 54, 54, 54, 55, 54, 56, 54, 57, 55, 48, 55, 49, 55, 50, 55, 51, 55, 52, 55, 53, 55, 54, 55, 55, 55, 56, 55, 57, 56, 48, 56, 49, 56, 50, 56, 51, 56, 52, 56, 53, 56, 54, 56, 55, 56, 56, 56, 57, 57, 48, 57, 49, 57, 50, 57, 51, 57, 52, 57, 53, 57, 54, 57, 55, 57, 56, 57, 57]⟩)) (.tmp 75)⟩,
 ⟨some 77, none, .mov (.tmp 11)⟩,
 ⟨some 78, none, .ids (.const (.string ⟨#[48, 48, 48, 49, 48, 50, 48, 51, 48, 52, 48, 53, 48, 54, 48, 55, 48, 56, 48, 57, 49, 48, 49, 49, 49, 50, 49, 51, 49, 52, 49, 53, 49, 54, 49, 55, 49, 56, 49, 57, 50, 48, 50, 49, 50, 50, 50, 51, 50, 52, 50, 53, 50, 54, 50, 55, 50, 56, 50, 57, 51, 48, 51, 49, 51, 50, 51, 51, 51, 52, 51, 53, 51, 54, 51, 55, 51, 56, 51, 57, 52, 48, 52, 49, 52, 50, 52, 51, 52, 52, 52, 53, 52, 54, 52, 55, 52, 56, 52, 57, 53, 48, 53, 49, 53, 50, 53, 51, 53, 52, 53, 53, 53, 54, 53, 55, 53, 56, 53, 57, 54, 48, 54, 49, 54, 50, 54, 51, 54, 52, 54, 53, 54, 54, 54, 55, 54, 56, 54, 57, 55, 48, 55, 49, 55, 50, 55, 51, 55, 52, 55, 53, 55, 54, 55, 55, 55, 56, 55, 57, 56, 48, 56, 49, 56, 50, 56, 51, 56, 52, 56, 53, 56, 54, 56, 55, 56, 56, 56, 57, 57, 48, 57, 49, 57, 50, 57, 51, 57, 52, 57, 53, 57, 54, 57, 55, 57, 56, 57, 57]⟩)) (.tmp 77)⟩,
 ⟨some 79, none, .iad 1 (.tmp 68) (.tmp 70)⟩,
 ⟨none, none, .st 1 (.tmp 79) (.tmp 76)⟩,
 ⟨some 80, none, .iad 1 (.tmp 71) (.tmp 73)⟩,
 ⟨none, none, .st 1 (.tmp 80) (.tmp 78)⟩] [(0, 1), (0, 2), (0, 3), (1, 3), (2, 3), (0, 4), (1, 4), (2, 4), (3, 4), (0, 5), (1, 5), (2, 5), (3, 5), (0, 6), (1, 6), (2, 6), (3, 6), (4, 6), (5, 6), (0, 7), (1, 7), (2, 7), (3, 7), (4, 7), (5, 7), (0, 8), (1, 8), (2, 8), (3, 8), (4, 8), (5, 8), (0, 9), (1, 9), (2, 9), (3, 9), (4, 9), (5, 9), (6, 9), (7, 9), (8, 9), (0, 10), (1, 10), (2, 10), (3, 10), (4, 10), (5, 10), (6, 10), (7, 10), (8, 10), (3, 11), (4, 11), (5, 11), (9, 11), (10, 11), (3, 12), (4, 12), (5, 12), (9, 12), (10, 12)])
 (.seq (.draw [⟨some 81, none, .mov (.tmp 0)⟩,
 ⟨some 82, none, .mov (.tmp 4)⟩,
 ⟨some 83, none, .bin .sub (.tmp 82) (.const (.int .i64 7))⟩,
 ⟨some 84, none, .mov (.tmp 0)⟩,
 ⟨some 85, none, .mov (.tmp 4)⟩,
 ⟨some 86, none, .bin .sub (.tmp 85) (.const (.int .i64 8))⟩,
 ⟨some 87, none, .mov (.tmp 10)⟩,
 ⟨some 88, none, .bin .add (.tmp 87) (.const (.int .u32 1))⟩,
 ⟨some 89, none, .ids (.const (.string ⟨#[48, 48, 48, 49, 48, 50, 48, 51, 48, 52, 48, 53, 48, 54, 48, 55, 48, 56, 48, 57, 49, 48, 49, 49, 49, 50, 49, 51, 49, 52, 49, 53, 49, 54, 49, 55, 49, 56, 49, 57, 50, 48, 50, 49, 50, 50, 50, 51, 50, 52, 50, 53, 50, 54, 50, 55, 50, 56, 50, 57, 51, 48, 51, 49, 51, 50, 51, 51, 51, 52, 51, 53, 51, 54, 51, 55, 51, 56, 51, 57, 52, 48, 52, 49, 52, 50, 52, 51, 52, 52, 52, 53, 52, 54, 52, 55, 52, 56, 52, 57, 53, 48, 53, 49, 53, 50, 53, 51, 53, 52, 53, 53, 53, 54, 53, 55, 53, 56, 53, 57, 54, 48, 54, 49, 54, 50, 54, 51, 54, 52, 54, 53, 54, 54, 54, 55, 54, 56, 54, 57, 55, 48, 55, 49, 55, 50, 55, 51, 55, 52, 55, 53, 55, 54, 55, 55, 55, 56, 55, 57, 56, 48, 56, 49, 56, 50, 56, 51, 56, 52, 56, 53, 56, 54, 56, 55, 56, 56, 56, 57, 57, 48, 57, 49, 57, 50, 57, 51, 57, 52, 57, 53, 57, 54, 57, 55, 57, 56, 57, 57]⟩)) (.tmp 88)⟩,
 ⟨some 90, none, .mov (.tmp 10)⟩,
 ⟨some 91, none, .ids (.const (.string ⟨#[48, 48, 48, 49, 48, 50, 48, 51, 48, 52, 48, 53, 48, 54, 48, 55, 48, 56, 48, 57, 49, 48, 49, 49, 49, 50, 49, 51, 49, 52, 49, 53, 49, 54, 49, 55, 49, 56, 49, 57, 50, 48, 50, 49, 50, 50, 50, 51, 50, 52, 50, 53, 50, 54, 50, 55, 50, 56, 50, 57, 51, 48, 51, 49, 51, 50, 51, 51, 51, 52, 51, 53, 51, 54, 51, 55, 51, 56, 51, 57, 52, 48, 52, 49, 52, 50, 52, 51, 52, 52, 52, 53, 52, 54, 52, 55, 52, 56, 52, 57, 53, 48, 53, 49, 53, 50, 53, 51, 53, 52, 53, 53, 53, 54, 53, 55, 53, 56, 53, 57, 54, 48, 54, 49, 54, 50, 54, 51, 54, 52, 54, 53, 54, 54, 54, 55, 54, 56, 54, 57, 55, 48, 55, 49, 55, 50, 55, 51, 55, 52, 55, 53, 55, 54, 55, 55, 55, 56, 55, 57, 56, 48, 56, 49, 56, 50, 56, 51, 56, 52, 56, 53, 56, 54, 56, 55, 56, 56, 56, 57, 57, 48, 57, 49, 57, 50, 57, 51, 57, 52, 57, 53, 57, 54, 57, 55, 57, 56, 57, 57]⟩)) (.tmp 90)⟩,
 ⟨some 92, none, .iad 1 (.tmp 81) (.tmp 83)⟩,
 ⟨none, none, .st 1 (.tmp 92) (.tmp 89)⟩,
 ⟨some 93, none, .iad 1 (.tmp 84) (.tmp 86)⟩,
 ⟨none, none, .st 1 (.tmp 93) (.tmp 91)⟩] [(0, 1), (0, 2), (0, 3), (1, 3), (2, 3), (0, 4), (1, 4), (2, 4), (3, 4), (0, 5), (1, 5), (2, 5), (3, 5), (0, 6), (1, 6), (2, 6), (3, 6), (4, 6), (5, 6), (0, 7), (1, 7), (2, 7), (3, 7), (4, 7), (5, 7), (0, 8), (1, 8), (2, 8), (3, 8), (4, 8), (5, 8), (0, 9), (1, 9), (2, 9), (3, 9), (4, 9), (5, 9), (6, 9), (7, 9), (8, 9), (0, 10), (1, 10), (2, 10), (3, 10), (4, 10), (5, 10), (6, 10), (7, 10), (8, 10), (3, 11), (4, 11), (5, 11), (9, 11), (10, 11), (3, 12), (4, 12), (5, 12), (9, 12), (10, 12)])
 (.ops [⟨some 94, none, .mov (.tmp 4)⟩,
 ⟨some 95, none, .bin .sub (.tmp 94) (.const (.int .i64 8))⟩,
 ⟨some 4, none, .mov (.tmp 95)⟩]))))))))))))))
 (.seq (.ops [⟨some 96, none, .mov (.tmp 1)⟩,
 ⟨some 97, none, .cvi .u32 (.tmp 96)⟩,
 ⟨some 12, none, .mov (.tmp 97)⟩])
 (.seq (.seq (.ops [⟨some 98, none, .mov (.tmp 4)⟩,
 ⟨some 99, none, .bin .geq (.tmp 98) (.const (.int .i64 4))⟩])
 (.cond (.tmp 99)
 (.seq (.ops [⟨some 100, none, .mov (.tmp 12)⟩,
 ⟨some 101, none, .bin .rem (.tmp 100) (.const (.int .u32 10000))⟩,
 ⟨some 13, none, .mov (.tmp 101)⟩])
 (.seq (.ops [⟨some 102, none, .mov (.tmp 12)⟩,
 ⟨some 103, none, .bin .quo (.tmp 102) (.const (.int .u32 10000))⟩,
 ⟨some 12, none, .mov (.tmp 103)⟩])
 (.seq (.ops [⟨some 104, none, .mov (.tmp 13)⟩,
 ⟨some 105, none, .bin .quo (.tmp 104) (.const (.int .u32 100))⟩,
 ⟨some 106, none, .bin .mul (.tmp 105) (.const (.int .u32 2))⟩,
 ⟨some 107, none, .mov (.tmp 13)⟩,
 ⟨some 108, none, .bin .rem (.tmp 107) (.const (.int .u32 100))⟩,
 ⟨some 109, none, .bin .mul (.tmp 108) (.const (.int .u32 2))⟩,
 ⟨some 14, none, .mov (.tmp 106)⟩,
 ⟨some 15, none, .mov (.tmp 109)⟩])
 (.seq (.draw [⟨some 110, none, .mov (.tmp 0)⟩,
 ⟨some 111, none, .mov (.tmp 4)⟩,
 ⟨some 112, none, .bin .sub (.tmp 111) (.const (.int .i64 1))⟩,
 ⟨some 113, none, .mov (.tmp 0)⟩,
 ⟨some 114, none, .mov (.tmp 4)⟩,
 ⟨some 115, none, .bin .sub (.tmp 114) (.const (.int .i64 2))⟩,
 ⟨some 116, none, .mov (.tmp 15)⟩,
 ⟨some 117, none, .bin .add (.tmp 116) (.const (.int .u32 1))⟩,
 ⟨some 118, none, .ids (.const (.string ⟨#[48, 48, 48, 49, 48, 50, 48, 51, 48, 52, 48, 53, 48, 54, 48, 55, 48, 56, 48, 57, 49, 48, 49, 49, 49, 50, 49, 51, 49, 52, 49, 53, 49, 54, 49, 55, 49, 56, 49, 57, 50, 48, 50, 49, 50, 50, 50, 51, 50, 52, 50, 53, 50, 54, 50, 55, 50, 56, 50, 57, 51, 48, 51, 49, 51, 50, 51, 51, 51, 52, 51, 53, 51, 54, 51, 55, 51, 56, 51, 57, 52, 48, 52, 49, 52, 50, 52, 51, 52, 52, 52, 53, 52, 54, 52, 55, 52, 56, 52, 57, 53, 48, 53, 49, 53, 50, 53, 51, 53, 52, 53, 53, 53, 54, 53, 55, 53, 56, 53, 57, 54, 48, 54, 49, 54, 50, 54, 51, 54, 52, 54, 53, 54, 54, 54, 55, 54, 56, 54, 57, 55, 48, 55, 49, 55, 50, 55, 51, 55, 52, 55, 53, 55, 54, 55, 55, 55, 56, 55, 57, 56, 48, 56, 49, 56, 50, 56, 51, 56, 52, 56, 53, 56, 54, 56, 55, 56, 56, 56, 57, 57, 48, 57, 49, 57, 50, 57, 51, 57, 52, 57, 53, 57, 54, 57, 55, 57, 56, 57, 57]⟩)) (.tmp 117)⟩,
 ⟨some 119, none, .mov (.tmp 15)⟩,
 ⟨some 120, none, .ids (.const (.string ⟨#[48, 48, 48, 49, 48, 50, 48, 51, 48, 52, 48, 53, 48, 54, 48, 55, 48, 56, 48, 57, 49, 48, 49, 49, 49, 50, 49, 51, 49, 52, 49, 53, 49, 54, 49, 55, 49, 56, 49, 57, 50, 48, 50, 49, 50, 50, 50, 51, 50, 52, 50, 53, 50, 54, 50, 55, 50, 56, 50, 57, 51, 48, 51, 49, 51, 50, 51, 51, 51, 52, 51, 53, 51, 54, 51, 55, 51, 56, 51, 57, 52, 48, 52, 49, 52, 50, 52, 51, 52, 52, 52, 53, 52, 54, 52, 55, 52, 56, 52, 57, 53, 48, 53, 49, 53, 50, 53, 51, 53, 52, 53, 53, 53, 54, 53, 55, 53, 56, 53, 57, 54, 48, 54, 49, 54, 50, 54, 51, 54, 52, 54, 53, 54, 54, 54, 55, 54, 56, 54, 57, 55, 48, 55, 49, 55, 50, 55, 51, 55, 52, 55, 53, 55, 54, 55, 55, 55, 56, 55, 57, 56, 48, 56, 49, 56, 50, 56, 51, 56, 52, 56, 53, 56, 54, 56, 55, 56, 56, 56, 57, 57, 48, 57, 49, 57, 50, 57, 51, 57, 52, 57, 53, 57, 54, 57, 55, 57, 56, 57, 57]⟩)) (.tmp 119)⟩,
 ⟨some 121, none, .iad 1 (.tmp 110) (.tmp 112)⟩,
 ⟨none, none, .st 1 (.tmp 121) (.tmp 118)⟩,
 ⟨some 122, none, .iad 1 (.tmp 113) (.tmp 115)⟩,
 ⟨none, none, .st 1 (.tmp 122) (.tmp 120)⟩] [(0, 1), (0, 2), (0, 3), (1, 3), (2, 3), (0, 4), (1, 4), (2, 4), (3, 4), (0, 5), (1, 5), (2, 5), (3, 5), (0, 6), (1, 6), (2, 6), (3, 6), (4, 6), (5, 6), (0, 7), (1, 7), (2, 7), (3, 7), (4, 7), (5, 7), (0, 8), (1, 8), (2, 8), (3, 8), (4, 8), (5, 8), (0, 9), (1, 9), (2, 9), (3, 9), (4, 9), (5, 9), (6, 9), (7, 9), (8, 9), (0, 10), (1, 10), (2, 10), (3, 10), (4, 10), (5, 10), (6, 10), (7, 10), (8, 10), (3, 11), (4, 11), (5, 11), (9, 11), (10, 11), (3, 12), (4, 12), (5, 12), (9, 12), (10, 12)])
 (.seq (.draw [⟨some 123, none, .mov (.tmp 0)⟩,
 ⟨some 124, none, .mov (.tmp 4)⟩,
 ⟨some 125, none, .bin .sub (.tmp 124) (.const (.int .i64 3))⟩,
 ⟨some 126, none, .mov (.tmp 0)⟩,
 ⟨some 127, none, .mov (.tmp 4)⟩,
 ⟨some 128, none, .bin .sub (.tmp 127) (.const (.int .i64 4))⟩,
 ⟨some 129, none, .mov (.tmp 14)⟩,
 ⟨some 130, none, .bin .add (.tmp 129) (.const (.int .u32 1))⟩,
 ⟨some 131, none, .ids (.const (.string ⟨#[48, 48, 48, 49, 48, 50, 48, 51, 48, 52, 48, 53, 48, 54, 48, 55, 48, 56, 48, 57, 49, 48, 49, 49, 49, 50, 49, 51, 49, 52, 49, 53, 49, 54, 49, 55, 49, 56, 49, 57, 50, 48, 50, 49, 50, 50, 50, 51, 50, 52, 50, 53, 50, 54, 50, 55, 50, 56, 50, 57, 51, 48, 51, 49, 51, 50, 51, 51, 51, 52, 51, 53, 51, 54, 51, 55, 51, 56, 51, 57, 52, 48, 52, 49, 52, 50, 52, 51, 52, 52, 52, 53, 52, 54, 52, 55, 52, 56, 52, 57, 53, 48, 53, 49, 53, 50, 53, 51, 53, 52, 53, 53, 53, 54, 53, 55, 53, 56, 53, 57, 54, 48, 54, 49, 54, 50, 54, 51, 54, 52, 54, 53, 54, 54, 54, 55, 54, 56, 54, 57, 55, 48, 55, 49, 55, 50, 55, 51, 55, 52, 55, 53, 55, 54, 55, 55, 55, 56, 55, 57, 56, 48, 56, 49, 56, 50, 56, 51, 56, 52, 56, 53, 56, 54, 56, 55, 56, 56, 56, 57, 57, 48, 57, 49, 57, 50, 57, 51, 57, 52, 57, 53, 57, 54, 57, 55, 57, 56, 57, 57]⟩)) (.tmp 130)⟩,
 ⟨some 132, none, .mov (.tmp 14)⟩,
 ⟨some 133, none, .ids (.const (.string ⟨#[48, 48, 48, 49, 48, 50, 48, 51, 48, 52, 48, 53, 48, 54, 48, 55, 48, 56, 48, 57, 49, 48, 49, 49, 49, 50, 49, 51, 49, 52, 49, 53, 49, 54, 49, 55, 49, 56, 49, 57, 50, 48, 50, 49, 50, 50, 50, 51, 50, 52, 50, 53, 50, 54, 50, 55, 50, 56, 50, 57, 51, 48, 51, 49, 51, 50, 51, 51, 51, 52, 51, 53, 51, 54, 51, 55, 51, 56, 51, 57, 52, 48, 52, 49, 52, 50, 52, 51, 52, 52, 52, 53, 52, 54, 52, 55, 52, 56, 52, 57, 53, 48, 53, 49, 53, 50, 53, 51, 53, 52, 53, 53, 53, 54, 53, 55, 53, 56, 53, 57, 54, 48, 54, 49, 54, 50, 54, 51, 54, 52, 54, 53, 54, 54, 54, 55, 54, 56, 54, 57, 55, 48, 55, 49, 55, 50, 55, 51, 55, 52, 55, 53, 55, 54, 55, 55, 55, 56, 55, 57, 56, 48, 56, 49, 56, 50, 56, 51, 56, 52, 56, 53, 56, 54, 56, 55, 56, 56, 56, 57, 57, 48, 57, 49, 57, 50, 57, 51, 57, 52, 57, 53, 57, 54, 57, 55, 57, 56, 57, 57]⟩)) (.tmp 132)⟩,
 ⟨some 134, none, .iad 1 (.tmp 123) (.tmp 125)⟩,
 ⟨none, none, .st 1 (.tmp 134) (.tmp 131)⟩,
 ⟨some 135, none, .iad 1 (.tmp 126) (.tmp 128)⟩,
 ⟨none, none, .st 1 (.tmp 135) (.tmp 133)⟩] [(0, 1), (0, 2), (0, 3), (1, 3), (2, 3), (0, 4), (1, 4), (2, 4), (3, 4), (0, 5), (1, 5), (2, 5), (3, 5), (0, 6), (1, 6), (2, 6), (3, 6), (4, 6), (5, 6), (0, 7), (1, 7), (2, 7), (3, 7), (4, 7), (5, 7), (0, 8), (1, 8), (2, 8), (3, 8), (4, 8), (5, 8), (0, 9), (1, 9), (2, 9), (3, 9), (4, 9), (5, 9), (6, 9), (7, 9), (8, 9), (0, 10), (1, 10), (2, 10), (3, 10), (4, 10), (5, 10), (6, 10), (7, 10), (8, 10), (3, 11), (4, 11), (5, 11), (9, 11), (10, 11), (3, 12), (4, 12), (5, 12), (9, 12), (10, 12)])
 (.ops [⟨some 136, none, .mov (.tmp 4)⟩,
 ⟨some 137, none, .bin .sub (.tmp 136) (.const (.int .i64 4))⟩,
 ⟨some 4, none, .mov (.tmp 137)⟩]))))))
 .skip))
 (.seq (.seq (.ops [⟨some 138, none, .mov (.tmp 4)⟩,
 ⟨some 139, none, .bin .geq (.tmp 138) (.const (.int .i64 2))⟩])
 (.cond (.tmp 139)
 (.seq (.ops [⟨some 140, none, .mov (.tmp 12)⟩,
 ⟨some 141, none, .bin .rem (.tmp 140) (.const (.int .u32 100))⟩,
 ⟨some 142, none, .bin .mul (.tmp 141) (.const (.int .u32 2))⟩,
 ⟨some 16, none, .mov (.tmp 142)⟩])
 (.seq (.ops [⟨some 143, none, .mov (.tmp 12)⟩,
 ⟨some 144, none, .bin .quo (.tmp 143) (.const (.int .u32 100))⟩,
 ⟨some 12, none, .mov (.tmp 144)⟩])
 (.seq (.draw [⟨some 145, none, .mov (.tmp 0)⟩,
 ⟨some 146, none, .mov (.tmp 4)⟩,
 ⟨some 147, none, .bin .sub (.tmp 146) (.const (.int .i64 1))⟩,
 ⟨some 148, none, .mov (.tmp 0)⟩,
 ⟨some 149, none, .mov (.tmp 4)⟩,
 ⟨some 150, none, .bin .sub (.tmp 149) (.const (.int .i64 2))⟩,
 ⟨some 151, none, .mov (.tmp 16)⟩,
 ⟨some 152, none, .bin .add (.tmp 151) (.const (.int .u32 1))⟩,
 ⟨some 153, none, .ids (.const (.string ⟨#[48, 48, 48, 49, 48, 50, 48, 51, 48, 52, 48, 53, 48, 54, 48, 55, 48, 56, 48, 57, 49, 48, 49, 49, 49, 50, 49, 51, 49, 52, 49, 53, 49, 54, 49, 55, 49, 56, 49, 57, 50, 48, 50, 49, 50, 50, 50, 51, 50, 52, 50, 53, 50, 54, 50, 55, 50, 56, 50, 57, 51, 48, 51, 49, 51, 50, 51, 51, 51, 52, 51, 53, 51, 54, 51, 55, 51, 56, 51, 57, 52, 48, 52, 49, 52, 50, 52, 51, 52, 52, 52, 53, 52, 54, 52, 55, 52, 56, 52, 57, 53, 48, 53, 49, 53, 50, 53, 51, 53, 52, 53, 53, 53, 54, 53, 55, 53, 56, 53, 57, 54, 48, 54, 49, 54, 50, 54, 51, 54, 52, 54, 53, 54, 54, 54, 55, 54, 56, 54, 57, 55, 48, 55, 49, 55, 50, 55, 51, 55, 52, 55, 53, 55, 54, 55, 55, 55, 56, 55, 57, 56, 48, 56, 49, 56, 50, 56, 51, 56, 52, 56, 53, 56, 54, 56, 55, 56, 56, 56, 57, 57, 48, 57, 49, 57, 50, 57, 51, 57, 52, 57, 53, 57, 54, 57, 55, 57, 56, 57, 57]⟩)) (.tmp 152)⟩,
 ⟨some 154, none, .mov (.tmp 16)⟩,
 ⟨some 155, none, .ids (.const (.string ⟨#[48, 48, 48, 49, 48, 50, 48, 51, 48, 52, 48, 53, 48, 54, 48, 55, 48, 56, 48, 57, 49, 48, 49, 49, 49, 50, 49, 51, 49, 52, 49, 53, 49, 54, 49, 55, 49, 56, 49, 57, 50, 48, 50, 49, 50, 50, 50, 51, 50, 52, 50, 53, 50, 54, 50, 55, 50, 56, 50, 57, 51, 48, 51, 49, 51, 50, 51, 51, 51, 52, 51, 53, 51, 54, 51, 55, 51, 56, 51, 57, 52, 48, 52, 49, 52, 50, 52, 51, 52, 52, 52, 53, 52, 54, 52, 55, 52, 56, 52, 57, 53, 48, 53, 49, 53, 50, 53, 51, 53, 52, 53, 53, 53, 54, 53, 55, 53, 56, 53, 57, 54, 48, 54, 49, 54, 50, 54, 51, 54, 52, 54, 53, 54, 54, 54, 55, 54, 56, 54, 57, 55, 48, 55, 49, 55, 50, 55, 51, 55, 52, 55, 53, 55, 54, 55, 55, 55, 56, 55, 57, 56, 48, 56, 49, 56, 50, 56, 51, 56, 52, 56, 53, 56, 54, 56, 55, 56, 56, 56, 57, 57, 48, 57, 49, 57, 50, 57, 51, 57, 52, 57, 53, 57, 54, 57, 55, 57, 56, 57, 57]⟩)) (.tmp 154)⟩,
 ⟨some 156, none, .iad 1 (.tmp 145) (.tmp 147)⟩,
 ⟨none, none, .st 1 (.tmp 156) (.tmp 153)⟩,
 ⟨some 157, none, .iad 1 (.tmp 148) (.tmp 150)⟩,
 ⟨none, none, .st 1 (.tmp 157) (.tmp 155)⟩] [(0, 1), (0, 2), (0, 3), (1, 3), (2, 3), (0, 4), (1, 4), (2, 4), (3, 4), (0, 5), (1, 5), (2, 5), (3, 5), (0, 6), (1, 6), (2, 6), (3, 6), (4, 6), (5, 6), (0, 7), (1, 7), (2, 7), (3, 7), (4, 7), (5, 7), (0, 8), (1, 8), (2, 8), (3, 8), (4, 8), (5, 8), (0, 9), (1, 9), (2, 9), (3, 9), (4, 9), (5, 9), (6, 9), (7, 9), (8, 9), (0, 10), (1, 10), (2, 10), (3, 10), (4, 10), (5, 10), (6, 10), (7, 10), (8, 10), (3, 11), (4, 11), (5, 11), (9, 11), (10, 11), (3, 12), (4, 12), (5, 12), (9, 12), (10, 12)])
 (.ops [⟨some 158, none, .mov (.tmp 4)⟩,
 ⟨some 159, none, .bin .sub (.tmp 158) (.const (.int .i64 2))⟩,
 ⟨some 4, none, .mov (.tmp 159)⟩]))))
 .skip))
 (.seq (.ops [⟨some 160, none, .mov (.tmp 4)⟩,
 ⟨some 161, none, .bin .gtr (.tmp 160) (.const (.int .i64 0))⟩])
 (.cond (.tmp 161)
 (.ops [⟨some 162, none, .mov (.tmp 0)⟩,
 ⟨some 163, none, .mov (.tmp 12)⟩,
 ⟨some 164, none, .bin .add (.const (.int .u32 48)) (.tmp 163)⟩,
 ⟨some 165, none, .cvi .u8 (.tmp 164)⟩,
 ⟨some 166, none, .iad 1 (.tmp 162) (.const (.int .i64 0))⟩,
 ⟨none, none, .st 1 (.tmp 166) (.tmp 165)⟩])
 .skip)))))))⟩
theorem ok66 : compF Tryz.prog Tryz.f66 = some c66 := by kernel_rfl
def c67 : CF := ⟨102, [.tmp 10, .tmp 11],
 (.seq (.ops [⟨some 10, none, .mov (.const (.slice none 0 0))⟩,
 ⟨some 11, none, .mov (.const (.string ⟨#[]⟩))⟩])
 (.seq (.seq (.ops [⟨some 19, none, .mov (.tmp 2)⟩,
 ⟨some 20, none, .bin .lss (.tmp 19) (.const (.int .i64 2))⟩,
 ⟨some 21, none, .mov (.tmp 20)⟩,
 ⟨some 22, (some (21, false)), .mov (.tmp 2)⟩,
 ⟨some 23, (some (21, false)), .bin .eql (.tmp 22) (.const (.int .i64 10))⟩,
 ⟨some 24, none, .pick (.tmp 21) (.const (.bool true)) (.tmp 23)⟩,
 ⟨some 25, none, .mov (.tmp 24)⟩,
 ⟨some 26, (some (25, false)), .mov (.tmp 2)⟩,
 ⟨some 27, (some (25, false)), .bin .gtr (.tmp 26) (.const (.int .i64 36))⟩,
 ⟨some 28, none, .pick (.tmp 25) (.const (.bool true)) (.tmp 27)⟩])
 (.cond (.tmp 28)
 (.ops [⟨some 29, none, .ifc 9 (.const (.string ⟨#[115, 116, 114, 99, 111, 110, 118, 58, 32, 105, 108, 108, 101, 103, 97, 108, 32, 65, 112, 112, 101, 110, 100, 73, 110, 116, 47, 70, 111, 114, 109, 97, 116, 73, 110, 116, 32, 98, 97, 115, 101]⟩))⟩,
 ⟨none, none, .bad⟩])
 .skip))
 (.seq (.ops [⟨some 12, none, .newz [(.int .u8 0), (.int .u8 0), (.int .u8 0), (.int .u8 0), (.int .u8 0), (.int .u8 0), (.int .u8 0), (.int .u8 0), (.int .u8 0), (.int .u8 0), (.int .u8 0), (.int .u8 0), (.int .u8 0), (.int .u8 0), (.int .u8 0), (.int .u8 0), (.int .u8 0), (.int .u8 0), (.int .u8 0), (.int .u8 0), (.int .u8 0), (.int .u8 0), (.int .u8 0), (.int .u8 0), (.int .u8 0), (.int .u8 0), (.int .u8 0), (.int .u8 0), (.int .u8 0), (.int .u8 0), (.int .u8 0), (.int .u8 0), (.int .u8 0), (.int .u8 0), (.int .u8 0), (.int .u8 0), (.int .u8 0), (.int .u8 0), (.int .u8 0), (.int .u8 0), (.int .u8 0), (.int .u8 0), (.int .u8 0), (.int .u8 0), (.int .u8 0), (.int .u8 0), (.int .u8 0), (.int .u8 0), (.int .u8 0), (.int .u8 0), (.int .u8 0), (.int .u8 0), (.int .u8 0), (.int .u8 0), (.int .u8 0), (.int .u8 0), (.int .u8 0), (.int .u8 0), (.int .u8 0), (.int .u8 0), (.int .u8 0), (.int .u8 0), (.int .u8 0), (.int .u8 0), (.int .u8 0)]⟩])
 (.seq (.ops [⟨some 13, none, .mov (.const (.int .i64 65))⟩])
 (.seq (.seq (.ops [⟨some 30, none, .mov (.tmp 3)⟩])
 (.cond (.tmp 30)
 (.ops [⟨some 31, none, .mov (.tmp 1)⟩,
 ⟨some 32, none, .un .neg (.tmp 31)⟩,
 ⟨some 1, none, .mov (.tmp 32)⟩])
 .skip))
 (.seq (.seq (.ops [⟨some 33, none, .mov (.tmp 2)⟩,
 ⟨some 34, none, .call (.func 85) [(.tmp 33)]⟩])
 (.cond (.tmp 34)
 (.seq (.ops [⟨some 35, none, .mov (.tmp 2)⟩,
 ⟨some 36, none, .cvi .u64 (.tmp 35)⟩,
 ⟨some 37, none, .call (.func 86) [(.tmp 36)]⟩,
 ⟨some 38, none, .cvi .u64 (.tmp 37)⟩,
 ⟨some 14, none, .mov (.tmp 38)⟩])
 (.seq (.ops [⟨some 39, none, .mov (.tmp 2)⟩,
 ⟨some 40, none, .cvi .u64 (.tmp 39)⟩,
 ⟨some 15, none, .mov (.tmp 40)⟩])
 (.seq (.ops [⟨some 41, none, .mov (.tmp 2)⟩,
 ⟨some 42, none, .cvi .u64 (.tmp 41)⟩,
 ⟨some 43, none, .bin .sub (.tmp 42) (.const (.int .u64 1))⟩,
 ⟨some 16, none, .mov (.tmp 43)⟩])
 (.seq (.block 0 (.loop (.seq (.seq (.ops [⟨some 44, none, .mov (.tmp 1)⟩,
 ⟨some 45, none, .mov (.tmp 15)⟩,
 ⟨some 46, none, .bin .geq (.tmp 44) (.tmp 45)⟩])
 (.cond (.tmp 46)
 .skip
 (.exit 0)))
 (.block 1 (.seq (.ops [⟨some 47, none, .mov (.tmp 13)⟩,
 ⟨some 48, none, .bin .sub (.tmp 47) (.const (.int .i64 1))⟩,
 ⟨some 13, none, .mov (.tmp 48)⟩])
 (.seq (.ops [⟨some 49, none, .mov (.tmp 13)⟩,
 ⟨some 50, none, .mov (.tmp 1)⟩,
 ⟨some 51, none, .mov (.tmp 16)⟩,
 ⟨some 52, none, .bin .and (.tmp 50) (.tmp 51)⟩,
 ⟨some 53, none, .ids (.const (.string ⟨#[48, 49, 50, 51, 52, 53, 54, 55, 56, 57, 97, 98, 99, 100, 101, 102, 103, 104, 105, 106, 107, 108, 109, 110, 111, 112, 113, 114, 115, 116, 117, 118, 119, 120, 121, 122]⟩)) (.tmp 52)⟩,
 ⟨some 54, none, .iaa 65 1 (.tmp 12) (.tmp 49)⟩,
 ⟨none, none, .st 1 (.tmp 54) (.tmp 53)⟩])
 (.ops [⟨some 55, none, .mov (.tmp 1)⟩,
 ⟨some 56, none, .mov (.tmp 14)⟩,
 ⟨some 57, none, .bin .shr (.tmp 55) (.tmp 56)⟩,
 ⟨some 1, none, .mov (.tmp 57)⟩])))))))
 (.seq (.ops [⟨some 58, none, .mov (.tmp 13)⟩,
 ⟨some 59, none, .bin .sub (.tmp 58) (.const (.int .i64 1))⟩,
 ⟨some 13, none, .mov (.tmp 59)⟩])
 (.ops [⟨some 60, none, .mov (.tmp 13)⟩,
 ⟨some 61, none, .mov (.tmp 1)⟩,
 ⟨some 62, none, .ids (.const (.string ⟨#[48, 49, 50, 51, 52, 53, 54, 55, 56, 57, 97, 98, 99, 100, 101, 102, 103, 104, 105, 106, 107, 108, 109, 110, 111, 112, 113, 114, 115, 116, 117, 118, 119, 120, 121, 122]⟩)) (.tmp 61)⟩,
 ⟨some 63, none, .iaa 65 1 (.tmp 12) (.tmp 60)⟩,
 ⟨none, none, .st 1 (.tmp 63) (.tmp 62)⟩]))))))
 (.seq (.ops [⟨some 64, none, .mov (.tmp 2)⟩,
 ⟨some 65, none, .cvi .u64 (.tmp 64)⟩,
 ⟨some 17, none, .mov (.tmp 65)⟩])
 (.seq (.block 2 (.loop (.seq (.seq (.ops [⟨some 66, none, .mov (.tmp 1)⟩,
 ⟨some 67, none, .mov (.tmp 17)⟩,
 ⟨some 68, none, .bin .geq (.tmp 66) (.tmp 67)⟩])
 (.cond (.tmp 68)
 .skip
 (.exit 2)))
 (.block 3 (.seq (.ops [⟨some 69, none, .mov (.tmp 13)⟩,
 ⟨some 70, none, .bin .sub (.tmp 69) (.const (.int .i64 1))⟩,
 ⟨some 13, none, .mov (.tmp 70)⟩])
 (.seq (.ops [⟨some 71, none, .mov (.tmp 1)⟩,
 ⟨some 72, none, .mov (.tmp 17)⟩,
 ⟨some 73, none, .bin .quo (.tmp 71) (.tmp 72)⟩,
 ⟨some 18, none, .mov (.tmp 73)⟩])
 (.seq (.ops [⟨some 74, none, .mov (.tmp 13)⟩,
 ⟨some 75, none, .mov (.tmp 1)⟩,
 ⟨some 76, none, .mov (.tmp 18)⟩,
 ⟨some 77, none, .mov (.tmp 17)⟩,
 ⟨some 78, none, .bin .mul (.tmp 76) (.tmp 77)⟩,
 ⟨some 79, none, .bin .sub (.tmp 75) (.tmp 78)⟩,
 ⟨some 80, none, .ids (.const (.string ⟨#[48, 49, 50, 51, 52, 53, 54, 55, 56, 57, 97, 98, 99, 100, 101, 102, 103, 104, 105, 106, 107, 108, 109, 110, 111, 112, 113, 114, 115, 116, 117, 118, 119, 120, 121, 122]⟩)) (.tmp 79)⟩,
 ⟨some 81, none, .iaa 65 1 (.tmp 12) (.tmp 74)⟩,
 ⟨none, none, .st 1 (.tmp 81) (.tmp 80)⟩])
 (.ops [⟨some 82, none, .mov (.tmp 18)⟩,
 ⟨some 1, none, .mov (.tmp 82)⟩]))))))))
 (.seq (.ops [⟨some 83, none, .mov (.tmp 13)⟩,
 ⟨some 84, none, .bin .sub (.tmp 83) (.const (.int .i64 1))⟩,
 ⟨some 13, none, .mov (.tmp 84)⟩])
 (.ops [⟨some 85, none, .mov (.tmp 13)⟩,
 ⟨some 86, none, .mov (.tmp 1)⟩,
 ⟨some 87, none, .ids (.const (.string ⟨#[48, 49, 50, 51, 52, 53, 54, 55, 56, 57, 97, 98, 99, 100, 101, 102, 103, 104, 105, 106, 107, 108, 109, 110, 111, 112, 113, 114, 115, 116, 117, 118, 119, 120, 121, 122]⟩)) (.tmp 86)⟩,
 ⟨some 88, none, .iaa 65 1 (.tmp 12) (.tmp 85)⟩,
 ⟨none, none, .st 1 (.tmp 88) (.tmp 87)⟩]))))))
 (.seq (.seq (.ops [⟨some 89, none, .mov (.tmp 3)⟩])
 (.cond (.tmp 89)
 (.seq (.ops [⟨some 90, none, .mov (.tmp 13)⟩,
 ⟨some 91, none, .bin .sub (.tmp 90) (.const (.int .i64 1))⟩,
 ⟨some 13, none, .mov (.tmp 91)⟩])
 (.ops [⟨some 92, none, .mov (.tmp 13)⟩,
 ⟨some 93, none, .iaa 65 1 (.tmp 12) (.tmp 92)⟩,
 ⟨none, none, .st 1 (.tmp 93) (.const (.int .u8 45))⟩]))
 .skip))
 (.seq (.seq (.ops [⟨some 94, none, .mov (.tmp 4)⟩])
 (.cond (.tmp 94)
 (.seq (.ops [⟨some 95, none, .mov (.tmp 0)⟩,
 ⟨some 96, none, .mov (.tmp 13)⟩,
 ⟨some 97, none, .sla 65 1 (.tmp 12) (some (.tmp 96)) none none⟩,
 ⟨some 98, none, .app 1 1 (.tmp 95) (.tmp 97)⟩,
 ⟨some 10, none, .mov (.tmp 98)⟩])
 .ret)
 .skip))
 (.seq (.ops [⟨some 99, none, .mov (.tmp 13)⟩,
 ⟨some 100, none, .sla 65 1 (.tmp 12) (some (.tmp 99)) none none⟩,
 ⟨some 101, none, .cvt (.tmp 100)⟩,
 ⟨some 11, none, .mov (.tmp 101)⟩])
 .ret)))))))))⟩
theorem ok67 : compF Tryz.prog Tryz.f67 = some c67 := by kernel_rfl
def c68 : CF := ⟨19, [.tmp 4],
 (.seq (.ops [⟨some 4, none, .mov (.const (.int .i64 0))⟩])
 (.seq (.seq (.ops [⟨some 6, none, .mov (.tmp 0)⟩,
 ⟨some 7, none, .lnl (.tmp 6)⟩,
 ⟨some 8, none, .mov (.const (.int .i64 0))⟩])
 (.block 0 (.loop (.seq (.ops [⟨some 9, none, .bin .lss (.tmp 8) (.tmp 7)⟩])
 (.seq (.cond (.tmp 9)
 .skip
 (.exit 0))
 (.seq (.block 1 (.seq (.ops [⟨some 10, none, .mov (.tmp 8)⟩,
 ⟨some 5, none, .mov (.tmp 10)⟩])
 (.seq (.ops [⟨some 11, none, .mov (.tmp 1)⟩,
 ⟨some 12, none, .mov (.tmp 0)⟩,
 ⟨some 13, none, .mov (.tmp 5)⟩,
 ⟨some 14, none, .iad 1 (.tmp 12) (.tmp 13)⟩,
 ⟨some 15, none, .ld1 (.tmp 14)⟩,
 ⟨some 16, none, .call (.tmp 11) [(.tmp 15)]⟩])
 (.cond (.tmp 16)
 (.seq (.ops [⟨some 17, none, .mov (.tmp 5)⟩,
 ⟨some 4, none, .mov (.tmp 17)⟩])
 .ret)
 .skip))))
 (.ops [⟨some 18, none, .bin .add (.tmp 8) (.const (.int .i64 1))⟩,
 ⟨some 8, none, .mov (.tmp 18)⟩])))))))
 (.seq (.ops [⟨some 4, none, .mov (.const (.int .i64 (-1)))⟩])
 .ret)))⟩
theorem ok68 : compF Tryz.prog Tryz.f68 = some c68 := by kernel_rfl
def c69 : CF := ⟨37, [.tmp 4],
 (.seq (.ops [⟨some 4, none, .mov (.const (.string ⟨#[]⟩))⟩])
 (.seq (.seq (.ops [⟨some 7, none, .mov (.tmp 0)⟩,
 ⟨some 8, none, .bin .eql (.tmp 7) (.const (.string ⟨#[]⟩))⟩,
 ⟨some 9, none, .mov (.tmp 8)⟩,
 ⟨some 10, (some (9, false)), .mov (.tmp 1)⟩,
 ⟨some 11, (some (9, false)), .bin .eql (.tmp 10) (.const (.string ⟨#[]⟩))⟩,
 ⟨some 12, none, .pick (.tmp 9) (.const (.bool true)) (.tmp 11)⟩])
 (.cond (.tmp 12)
 (.seq (.ops [⟨some 13, none, .mov (.tmp 0)⟩,
 ⟨some 4, none, .mov (.tmp 13)⟩])
 .ret)
 .skip))
 (.seq (.seq (.ops [⟨some 14, none, .mov (.tmp 1)⟩,
 ⟨some 15, none, .lns (.tmp 14)⟩,
 ⟨some 16, none, .bin .eql (.tmp 15) (.const (.int .i64 1))⟩,
 ⟨some 17, none, .mov (.tmp 16)⟩,
 ⟨some 18, (some (17, true)), .mov (.tmp 1)⟩,
 ⟨some 19, (some (17, true)), .ids (.tmp 18) (.const (.int .i64 0))⟩,
 ⟨some 20, (some (17, true)), .bin .lss (.tmp 19) (.const (.int .u8 128))⟩,
 ⟨some 21, none, .pick (.tmp 17) (.tmp 20) (.const (.bool false))⟩])
 (.cond (.tmp 21)
 (.seq (.ops [⟨some 22, none, .mov (.tmp 0)⟩,
 ⟨some 23, none, .mov (.tmp 1)⟩,
 ⟨some 24, none, .ids (.tmp 23) (.const (.int .i64 0))⟩,
 ⟨some 25, none, .call (.func 87) [(.tmp 22), (.tmp 24)]⟩,
 ⟨some 4, none, .mov (.tmp 25)⟩])
 .ret)
 .skip))
 (.seq (.seq (.ops [⟨some 27, none, .mov (.tmp 1)⟩,
 ⟨some 28, none, .call (.func 88) [(.tmp 27)]⟩,
 ⟨some 26, none, .mov (.tmp 28)⟩,
 ⟨some 29, none, .ext (.tmp 26) 0⟩,
 ⟨some 30, none, .ext (.tmp 26) 1⟩,
 ⟨some 5, none, .newz [(.bool false), (.bool false), (.bool false), (.bool false), (.bool false), (.bool false), (.bool false), (.bool false), (.bool false), (.bool false), (.bool false), (.bool false), (.bool false), (.bool false), (.bool false), (.bool false), (.bool false), (.bool false), (.bool false), (.bool false), (.bool false), (.bool false), (.bool false), (.bool false), (.bool false), (.bool false), (.bool false), (.bool false), (.bool false), (.bool false), (.bool false), (.bool false), (.bool false), (.bool false), (.bool false), (.bool false), (.bool false), (.bool false), (.bool false), (.bool false), (.bool false), (.bool false), (.bool false), (.bool false), (.bool false), (.bool false), (.bool false), (.bool false), (.bool false), (.bool false), (.bool false), (.bool false), (.bool false), (.bool false), (.bool false), (.bool false), (.bool false), (.bool false), (.bool false), (.bool false), (.bool false), (.bool false), (.bool false), (.bool false), (.bool false), (.bool false), (.bool false), (.bool false), (.bool false), (.bool false), (.bool false), (.bool false), (.bool false), (.bool false), (.bool false), (.bool false), (.bool false), (.bool false), (.bool false), (.bool false), (.bool false), (.bool false), (.bool false), (.bool false), (.bool false), (.bool false), (.bool false), (.bool false), (.bool false), (.bool false), (.bool false), (.bool false), (.bool false), (.bool false), (.bool false), (.bool false), (.bool false), (.bool false), (.bool false), (.bool false), (.bool false), (.bool false), (.bool false), (.bool false), (.bool false), (.bool false), (.bool false), (.bool false), (.bool false), (.bool false), (.bool false), (.bool false), (.bool false), (.bool false), (.bool false), (.bool false), (.bool false), (.bool false), (.bool false), (.bool false), (.bool false), (.bool false), (.bool false), (.bool false), (.bool false), (.bool false), (.bool false), (.bool false), (.bool false), (.bool false), (.bool false), (.bool false), (.bool false), (.bool false), (.bool false), (.bool false), (.bool false), (.bool false), (.bool false), (.bool false), (.bool false), (.bool false), (.bool false), (.bool false), (.bool false), (.bool false), (.bool false), (.bool false), (.bool false), (.bool false), (.bool false), (.bool false), (.bool false), (.bool false), (.bool false), (.bool false), (.bool false), (.bool false), (.bool false), (.bool false), (.bool false), (.bool false), (.bool false), (.bool false), (.bool false), (.bool false), (.bool false), (.bool false), (.bool false), (.bool false), (.bool false), (.bool false), (.bool false), (.bool false), (.bool false), (.bool false), (.bool false), (.bool false), (.bool false), (.bool false), (.bool false), (.bool false), (.bool false), (.bool false), (.bool false), (.bool false), (.bool false), (.bool false), (.bool false), (.bool false), (.bool false), (.bool false), (.bool false), (.bool false), (.bool false), (.bool false), (.bool false), (.bool false), (.bool false), (.bool false), (.bool false), (.bool false), (.bool false), (.bool false), (.bool false), (.bool false), (.bool false), (.bool false), (.bool false), (.bool false), (.bool false), (.bool false), (.bool false), (.bool false), (.bool false), (.bool false), (.bool false), (.bool false), (.bool false), (.bool false), (.bool false), (.bool false), (.bool false), (.bool false), (.bool false), (.bool false), (.bool false), (.bool false), (.bool false), (.bool false), (.bool false), (.bool false), (.bool false), (.bool false), (.bool false), (.bool false), (.bool false), (.bool false), (.bool false), (.bool false), (.bool false), (.bool false), (.bool false), (.bool false), (.bool false), (.bool false), (.bool false), (.bool false), (.bool false), (.bool false), (.bool false), (.bool false), (.bool false), (.bool false), (.bool false), (.bool false)]⟩,
 ⟨none, none, .st 256 (.tmp 5) (.tmp 29)⟩,
 ⟨some 6, none, .mov (.tmp 30)⟩])
 (.seq (.ops [⟨some 31, none, .mov (.tmp 6)⟩])
 (.cond (.tmp 31)
 (.seq (.ops [⟨some 32, none, .mov (.tmp 0)⟩,
 ⟨some 33, none, .call (.func 89) [(.tmp 32), (.tmp 5)]⟩,
 ⟨some 4, none, .mov (.tmp 33)⟩])
 .ret)
 .skip)))
 (.seq (.ops [⟨some 34, none, .mov (.tmp 0)⟩,
 ⟨some 35, none, .mov (.tmp 1)⟩,
 ⟨some 36, none, .call (.func 90) [(.tmp 34), (.tmp 35)]⟩,
 ⟨some 4, none, .mov (.tmp 36)⟩])
 .ret)))))⟩
theorem ok69 : compF Tryz.prog Tryz.f69 = some c69 := by kernel_rfl
def c70 : CF := ⟨8, [.tmp 4],
 (.seq (.ops [⟨some 4, none, .mov (.const (.string ⟨#[]⟩))⟩])
 (.seq (.ops [⟨some 5, none, .mov (.tmp 0)⟩,
 ⟨some 6, none, .mov (.tmp 1)⟩,
 ⟨some 7, none, .call (.func 91) [(.tmp 5), (.tmp 6)]⟩,
 ⟨some 4, none, .mov (.tmp 7)⟩])
 .ret))⟩
theorem ok70 : compF Tryz.prog Tryz.f70 = some c70 := by kernel_rfl
def c71 : CF := ⟨9, [.tmp 4],
 (.seq (.ops [⟨some 4, none, .mov (.const (.bool false))⟩])
 (.seq (.ops [⟨some 5, none, .mov (.tmp 0)⟩,
 ⟨some 6, none, .mov (.tmp 1)⟩,
 ⟨some 7, none, .call (.func 92) [(.tmp 5), (.tmp 6)]⟩,
 ⟨some 8, none, .bin .geq (.tmp 7) (.const (.int .i64 0))⟩,
 ⟨some 4, none, .mov (.tmp 8)⟩])
 .ret))⟩
theorem ok71 : compF Tryz.prog Tryz.f71 = some c71 := by kernel_rfl
def c72 : CF := ⟨8, [.tmp 4],
 (.seq (.ops [⟨some 4, none, .mov (.const (.bool false))⟩])
 (.seq (.ops [⟨some 5, none, .mov (.tmp 0)⟩,
 ⟨some 6, none, .mov (.tmp 1)⟩,
 ⟨some 7, none, .call (.func 93) [(.tmp 5), (.tmp 6)]⟩,
 ⟨some 4, none, .mov (.tmp 7)⟩])
 .ret))⟩
theorem ok72 : compF Tryz.prog Tryz.f72 = some c72 := by kernel_rfl
def c73 : CF := ⟨26, [.tmp 2, .tmp 3],
 (.seq (.ops [⟨some 2, none, .mov (.const (.slice none 0 0))⟩,
 ⟨some 3, none, .mov (.const (.int .i64 0))⟩])
 (.seq (.seq (.ops [⟨some 10, none, .mov (.tmp 0)⟩,
 ⟨some 11, none, .call (.func 94) [(.tmp 10)]⟩,
 ⟨some 9, none, .mov (.tmp 11)⟩,
 ⟨some 12, none, .ext (.tmp 9) 0⟩,
 ⟨some 13, none, .ext (.tmp 9) 1⟩,
 ⟨some 4, none, .mov (.tmp 12)⟩,
 ⟨some 5, none, .mov (.tmp 13)⟩])
 (.seq (.ops [⟨some 14, none, .mov (.tmp 5)⟩,
 ⟨some 15, none, .bin .neq (.tmp 14) (.const (.int .i64 0))⟩])
 (.cond (.tmp 15)
 (.seq (.ops [⟨some 16, none, .mov (.tmp 5)⟩,
 ⟨some 2, none, .mov (.const (.slice none 0 0))⟩,
 ⟨some 3, none, .mov (.tmp 16)⟩])
 .ret)
 .skip)))
 (.seq (.ops [⟨some 6, none, .newz [(.slice none 0 0)]⟩])
 (.seq (.seq (.ops [⟨some 17, none, .mov (.tmp 0)⟩,
 ⟨some 18, none, .call (.func 95) [(.tmp 17)]⟩])
 (.block 0 (.rangeF (.tmp 18) [19, 20]
 (.ops [⟨some 8, none, .mov (.tmp 20)⟩])
 (.block 1 (.ops [⟨some 21, none, .ld1 (.tmp 6)⟩,
 ⟨some 22, none, .mov (.tmp 8)⟩,
 ⟨some 23, none, .lits [(.int .i32 0)] 1 [(0, 1, (.tmp 22))]⟩,
 ⟨some 24, none, .app 1 4 (.tmp 21) (.tmp 23)⟩,
 ⟨none, none, .st 1 (.tmp 6) (.tmp 24)⟩])))))
 (.seq (.ops [⟨some 25, none, .ld1 (.tmp 6)⟩,
 ⟨some 2, none, .mov (.tmp 25)⟩,
 ⟨some 3, none, .mov (.const (.int .i64 0))⟩])
 .ret)))))⟩
theorem ok73 : compF Tryz.prog Tryz.f73 = some c73 := by kernel_rfl
def c74 : CF := ⟨42, [.tmp 2, .tmp 3],
 (.seq (.ops [⟨some 2, none, .mov (.const (.int .i64 0))⟩,
 ⟨some 3, none, .mov (.const (.int .i64 0))⟩])
 (.seq (.block 0 (.seq (.ops [⟨some 7, none, .mov (.tmp 0)⟩,
 ⟨some 8, none, .call (.func 96) [(.tmp 7)]⟩,
 ⟨some 9, none, .un .not (.tmp 8)⟩,
 ⟨some 6, none, .mov (.tmp 9)⟩])
 (.cond (.tmp 6)
 (.seq (.ops [⟨some 2, none, .mov (.const (.int .i64 0))⟩,
 ⟨some 3, none, .mov (.const (.int .i64 7))⟩])
 .ret)
 (.seq (.ops [⟨some 11, none, .mov (.tmp 0)⟩,
 ⟨some 12, none, .bin .geq (.tmp 11) (.const (.int .i32 48))⟩,
 ⟨some 13, none, .mov (.tmp 12)⟩,
 ⟨some 14, (some (13, true)), .mov (.tmp 0)⟩,
 ⟨some 15, (some (13, true)), .bin .leq (.tmp 14) (.const (.int .i32 57))⟩,
 ⟨some 16, none, .pick (.tmp 13) (.tmp 15) (.const (.bool false))⟩,
 ⟨some 10, none, .mov (.tmp 16)⟩])
 (.cond (.tmp 10)
 (.seq (.ops [⟨some 2, none, .mov (.const (.int .i64 7))⟩,
 ⟨some 3, none, .mov (.const (.int .i64 0))⟩])
 .ret)
 (.seq (.seq (.ops [⟨some 18, none, .mov (.tmp 0)⟩,
 ⟨some 19, none, .bin .geq (.tmp 18) (.const (.int .i32 97))⟩,
 ⟨some 20, none, .mov (.tmp 19)⟩,
 ⟨some 21, (some (20, true)), .mov (.tmp 0)⟩,
 ⟨some 22, (some (20, true)), .bin .leq (.tmp 21) (.const (.int .i32 122))⟩,
 ⟨some 23, none, .pick (.tmp 20) (.tmp 22) (.const (.bool false))⟩,
 ⟨some 17, none, .mov (.tmp 23)⟩])
 (.cond (.tmp 17)
 .skip
 (.seq (.ops [⟨some 24, none, .mov (.tmp 0)⟩,
 ⟨some 25, none, .bin .geq (.tmp 24) (.const (.int .i32 65))⟩,
 ⟨some 26, none, .mov (.tmp 25)⟩,
 ⟨some 27, (some (26, true)), .mov (.tmp 0)⟩,
 ⟨some 28, (some (26, true)), .bin .leq (.tmp 27) (.const (.int .i32 90))⟩,
 ⟨some 29, none, .pick (.tmp 26) (.tmp 28) (.const (.bool false))⟩,
 ⟨some 17, none, .mov (.tmp 29)⟩])
 (.cond (.tmp 17)
 .skip
 (.ops [⟨some 30, none, .mov (.tmp 0)⟩,
 ⟨some 31, none, .bin .gtr (.tmp 30) (.const (.int .i32 160))⟩,
 ⟨some 17, none, .mov (.tmp 31)⟩])))))
 (.cond (.tmp 17)
 (.seq (.ops [⟨some 2, none, .mov (.const (.int .i64 9))⟩,
 ⟨some 3, none, .mov (.const (.int .i64 0))⟩])
 .ret)
 .skip)))))))
 (.seq (.seq (.ops [⟨some 32, none, .call (.func 97) []⟩,
 ⟨some 33, none, .mov (.const (.int .i64 0))⟩])
 (.block 1 (.loop (.seq (.ops [⟨some 34, none, .bin .lss (.tmp 33) (.const (.int .i64 10))⟩])
 (.seq (.cond (.tmp 34)
 .skip
 (.exit 1))
 (.seq (.block 2 (.seq (.ops [⟨some 35, none, .mov (.tmp 33)⟩,
 ⟨some 36, none, .ida1 10 1 (.tmp 32) (.tmp 33)⟩,
 ⟨some 4, none, .mov (.tmp 35)⟩,
 ⟨some 5, none, .mov (.tmp 36)⟩])
 (.seq (.ops [⟨some 37, none, .mov (.tmp 5)⟩,
 ⟨some 38, none, .mov (.tmp 0)⟩,
 ⟨some 39, none, .call (.func 98) [(.tmp 37), (.tmp 38)]⟩])
 (.cond (.tmp 39)
 (.seq (.ops [⟨some 40, none, .mov (.tmp 4)⟩,
 ⟨some 2, none, .mov (.tmp 40)⟩,
 ⟨some 3, none, .mov (.const (.int .i64 0))⟩])
 .ret)
 .skip))))
 (.ops [⟨some 41, none, .bin .add (.tmp 33) (.const (.int .i64 1))⟩,
 ⟨some 33, none, .mov (.tmp 41)⟩])))))))
 (.seq (.ops [⟨some 2, none, .mov (.const (.int .i64 10))⟩,
 ⟨some 3, none, .mov (.const (.int .i64 0))⟩])
 .ret))))⟩
theorem ok74 : compF Tryz.prog Tryz.f74 = some c74 := by kernel_rfl
def c75 : CF := ⟨76, [],
 (.seq (.ops [⟨some 10, none, .mov (.tmp 1)⟩,
 ⟨some 8, none, .mov (.tmp 10)⟩])
 (.block 0 (.loop (.block 1 (.seq (.ops [⟨some 11, none, .mov (.tmp 8)⟩,
 ⟨some 12, none, .bin .mul (.const (.int .i64 2)) (.tmp 11)⟩,
 ⟨some 13, none, .bin .add (.tmp 12) (.const (.int .i64 1))⟩,
 ⟨some 9, none, .mov (.tmp 13)⟩])
 (.seq (.seq (.ops [⟨some 14, none, .mov (.tmp 9)⟩,
 ⟨some 15, none, .mov (.tmp 2)⟩,
 ⟨some 16, none, .bin .geq (.tmp 14) (.tmp 15)⟩])
 (.cond (.tmp 16)
 (.exit 0)
 .skip))
 (.seq (.seq (.draw [⟨some 17, none, .mov (.tmp 9)⟩,
 ⟨some 18, none, .bin .add (.tmp 17) (.const (.int .i64 1))⟩,
 ⟨some 19, none, .mov (.tmp 2)⟩,
 ⟨some 20, none, .bin .lss (.tmp 18) (.tmp 19)⟩,
 ⟨some 21, none, .mov (.tmp 20)⟩,
 ⟨some 22, (some (21, true)), .mov (.tmp 0)⟩,
 ⟨some 23, (some (21, true)), .mov (.tmp 3)⟩,
 ⟨some 24, (some (21, true)), .mov (.tmp 9)⟩,
 ⟨some 25, (some (21, true)), .bin .add (.tmp 23) (.tmp 24)⟩,
 ⟨some 26, (some (21, true)), .iad 1 (.tmp 22) (.tmp 25)⟩,
 ⟨some 27, (some (21, true)), .ld1 (.tmp 26)⟩,
 ⟨some 28, (some (21, true)), .mov (.tmp 0)⟩,
 ⟨some 29, (some (21, true)), .mov (.tmp 3)⟩,
 ⟨some 30, (some (21, true)), .mov (.tmp 9)⟩,
 ⟨some 31, (some (21, true)), .bin .add (.tmp 29) (.tmp 30)⟩,
 ⟨some 32, (some (21, true)), .bin .add (.tmp 31) (.const (.int .i64 1))⟩,
 ⟨some 33, (some (21, true)), .iad 1 (.tmp 28) (.tmp 32)⟩,
 ⟨some 34, (some (21, true)), .ld1 (.tmp 33)⟩,
 ⟨some 35, (some (21, true)), .call (.func 57) [(.tmp 27), (.tmp 34)]⟩,
 ⟨some 36, none, .pick (.tmp 21) (.tmp 35) (.const (.bool false))⟩] [(0, 2), (1, 2), (5, 6), (5, 7), (6, 7), (5, 8), (5, 11), (6, 11), (7, 11), (8, 11), (9, 11), (10, 11), (5, 12), (6, 12), (7, 12), (8, 12), (9, 12), (10, 12), (11, 12), (5, 13), (6, 13), (7, 13), (8, 13), (9, 13), (10, 13), (11, 13), (12, 13), (5, 14), (6, 14), (7, 14), (8, 14), (9, 14), (10, 14), (11, 14), (5, 15), (6, 15), (7, 15), (8, 15), (9, 15), (10, 15), (11, 15), (5, 16), (6, 16), (7, 16), (8, 16), (9, 16), (10, 16), (5, 17), (6, 17), (7, 17), (8, 17), (9, 17), (10, 17)])
 (.cond (.tmp 36)
 (.ops [⟨some 37, none, .mov (.tmp 9)⟩,
 ⟨some 38, none, .bin .add (.tmp 37) (.const (.int .i64 1))⟩,
 ⟨some 9, none, .mov (.tmp 38)⟩])
 .skip))
 (.seq (.seq (.draw [⟨some 39, none, .mov (.tmp 0)⟩,
 ⟨some 40, none, .mov (.tmp 3)⟩,
 ⟨some 41, none, .mov (.tmp 8)⟩,
 ⟨some 42, none, .bin .add (.tmp 40) (.tmp 41)⟩,
 ⟨some 43, none, .iad 1 (.tmp 39) (.tmp 42)⟩,
 ⟨some 44, none, .ld1 (.tmp 43)⟩,
 ⟨some 45, none, .mov (.tmp 0)⟩,
 ⟨some 46, none, .mov (.tmp 3)⟩,
 ⟨some 47, none, .mov (.tmp 9)⟩,
 ⟨some 48, none, .bin .add (.tmp 46) (.tmp 47)⟩,
 ⟨some 49, none, .iad 1 (.tmp 45) (.tmp 48)⟩,
 ⟨some 50, none, .ld1 (.tmp 49)⟩,
 ⟨some 51, none, .call (.func 57) [(.tmp 44), (.tmp 50)]⟩,
 ⟨some 52, none, .un .not (.tmp 51)⟩] [(0, 1), (0, 2), (1, 2), (0, 3), (0, 6), (1, 6), (2, 6), (3, 6), (4, 6), (5, 6), (0, 7), (1, 7), (2, 7), (3, 7), (4, 7), (5, 7), (6, 7), (0, 8), (1, 8), (2, 8), (3, 8), (4, 8), (5, 8), (6, 8), (7, 8), (0, 9), (1, 9), (2, 9), (3, 9), (4, 9), (5, 9), (6, 9), (0, 10), (1, 10), (2, 10), (3, 10), (4, 10), (5, 10), (0, 11), (1, 11), (2, 11), (3, 11), (4, 11), (5, 11)])
 (.cond (.tmp 52)
 .ret
 .skip))
 (.seq (.draw [⟨some 53, none, .mov (.tmp 0)⟩,
 ⟨some 54, none, .mov (.tmp 3)⟩,
 ⟨some 55, none, .mov (.tmp 8)⟩,
 ⟨some 56, none, .bin .add (.tmp 54) (.tmp 55)⟩,
 ⟨some 57, none, .mov (.tmp 0)⟩,
 ⟨some 58, none, .mov (.tmp 3)⟩,
 ⟨some 59, none, .mov (.tmp 9)⟩,
 ⟨some 60, none, .bin .add (.tmp 58) (.tmp 59)⟩,
 ⟨some 61, none, .mov (.tmp 0)⟩,
 ⟨some 62, none, .mov (.tmp 3)⟩,
 ⟨some 63, none, .mov (.tmp 9)⟩,
 ⟨some 64, none, .bin .add (.tmp 62) (.tmp 63)⟩,
 ⟨some 65, none, .iad 1 (.tmp 61) (.tmp 64)⟩,
 ⟨some 66, none, .ld1 (.tmp 65)⟩,
 ⟨some 67, none, .mov (.tmp 0)⟩,
 ⟨some 68, none, .mov (.tmp 3)⟩,
 ⟨some 69, none, .mov (.tmp 8)⟩,
 ⟨some 70, none, .bin .add (.tmp 68) (.tmp 69)⟩,
 ⟨some 71, none, .iad 1 (.tmp 67) (.tmp 70)⟩,
 ⟨some 72, none, .ld1 (.tmp 71)⟩,
 ⟨some 73, none, .iad 1 (.tmp 53) (.tmp 56)⟩,
 ⟨none, none, .st 1 (.tmp 73) (.tmp 66)⟩,
 ⟨some 74, none, .iad 1 (.tmp 57) (.tmp 60)⟩,
 ⟨none, none, .st 1 (.tmp 74) (.tmp 72)⟩] [(0, 1), (0, 2), (1, 2), (0, 3), (0, 4), (1, 4), (2, 4), (3, 4), (0, 5), (1, 5), (2, 5), (3, 5), (4, 5), (0, 6), (1, 6), (2, 6), (3, 6), (4, 6), (5, 6), (0, 7), (1, 7), (2, 7), (3, 7), (4, 7), (0, 8), (1, 8), (2, 8), (3, 8), (4, 8), (5, 8), (6, 8), (7, 8), (0, 9), (1, 9), (2, 9), (3, 9), (4, 9), (5, 9), (6, 9), (7, 9), (8, 9), (0, 10), (1, 10), (2, 10), (3, 10), (4, 10), (5, 10), (6, 10), (7, 10), (8, 10), (9, 10), (0, 11), (1, 11), (2, 11), (3, 11), (4, 11), (5, 11), (6, 11), (7, 11), (8, 11), (0, 12), (1, 12), (2, 12), (3, 12), (4, 12), (5, 12), (6, 12), (7, 12), (0, 13), (1, 13), (2, 13), (3, 13), (4, 13), (5, 13), (6, 13), (7, 13), (0, 14), (1, 14), (2, 14), (3, 14), (4, 14), (5, 14), (6, 14), (7, 14), (8, 14), (9, 14), (10, 14), (11, 14), (12, 14), (13, 14), (0, 15), (1, 15), (2, 15), (3, 15), (4, 15), (5, 15), (6, 15), (7, 15), (8, 15), (9, 15), (10, 15), (11, 15), (12, 15), (13, 15), (14, 15), (0, 16), (1, 16), (2, 16), (3, 16), (4, 16), (5, 16), (6, 16), (7, 16), (8, 16), (9, 16), (10, 16), (11, 16), (12, 16), (13, 16), (14, 16), (15, 16), (0, 17), (1, 17), (2, 17), (3, 17), (4, 17), (5, 17), (6, 17), (7, 17), (8, 17), (9, 17), (10, 17), (11, 17), (12, 17), (13, 17), (14, 17), (0, 18), (1, 18), (2, 18), (3, 18), (4, 18), (5, 18), (6, 18), (7, 18), (8, 18), (9, 18), (10, 18), (11, 18), (12, 18), (13, 18), (0, 19), (1, 19), (2, 19), (3, 19), (4, 19), (5, 19), (6, 19), (7, 19), (8, 19), (9, 19), (10, 19), (11, 19), (12, 19), (13, 19), (4, 20), (5, 20), (6, 20), (7, 20), (4, 21), (5, 21), (6, 21), (7, 21)])
 (.ops [⟨some 75, none, .mov (.tmp 9)⟩,
 ⟨some 8, none, .mov (.tmp 75)⟩]))))))))))⟩
theorem ok75 : compF Tryz.prog Tryz.f75 = some c75 := by kernel_rfl
def c76 : CF := ⟨7, [.tmp 2],
 (.seq (.ops [⟨some 2, none, .mov (.const (.int .u64 0))⟩])
 (.seq (.ops [⟨some 3, none, .mov (.tmp 0)⟩,
 ⟨some 4, none, .cvi .u64 (.tmp 3)⟩,
 ⟨some 5, none, .call (.func 37) [(.tmp 4)]⟩,
 ⟨some 6, none, .bin .shl (.const (.int .u64 1)) (.tmp 5)⟩,
 ⟨some 2, none, .mov (.tmp 6)⟩])
 .ret))⟩
theorem ok76 : compF Tryz.prog Tryz.f76 = some c76 := by kernel_rfl
def c77 : CF := ⟨33, [.tmp 2],
 (.seq (.ops [⟨some 2, none, .mov (.const (.int .u64 0))⟩])
 (.seq (.draw [⟨some 3, none, .mov (.tmp 0)⟩,
 ⟨some 4, none, .nilck (.tmp 3)⟩,
 ⟨some 5, none, .ld1 (.tmp 4)⟩,
 ⟨some 6, none, .mov (.tmp 0)⟩,
 ⟨some 7, none, .nilck (.tmp 6)⟩,
 ⟨some 8, none, .ld1 (.tmp 7)⟩,
 ⟨some 9, none, .bin .shl (.tmp 8) (.const (.int .u64 13))⟩,
 ⟨some 10, none, .bin .xor (.tmp 5) (.tmp 9)⟩,
 ⟨some 11, none, .nilck (.tmp 3)⟩,
 ⟨none, none, .st 1 (.tmp 11) (.tmp 10)⟩] [(0, 3), (1, 3), (2, 3), (0, 4), (1, 4), (2, 4), (0, 5), (1, 5), (2, 5), (0, 6), (1, 6), (2, 6)])
 (.seq (.draw [⟨some 12, none, .mov (.tmp 0)⟩,
 ⟨some 13, none, .nilck (.tmp 12)⟩,
 ⟨some 14, none, .ld1 (.tmp 13)⟩,
 ⟨some 15, none, .mov (.tmp 0)⟩,
 ⟨some 16, none, .nilck (.tmp 15)⟩,
 ⟨some 17, none, .ld1 (.tmp 16)⟩,
 ⟨some 18, none, .bin .shr (.tmp 17) (.const (.int .u64 7))⟩,
 ⟨some 19, none, .bin .xor (.tmp 14) (.tmp 18)⟩,
 ⟨some 20, none, .nilck (.tmp 12)⟩,
 ⟨none, none, .st 1 (.tmp 20) (.tmp 19)⟩] [(0, 3), (1, 3), (2, 3), (0, 4), (1, 4), (2, 4), (0, 5), (1, 5), (2, 5), (0, 6), (1, 6), (2, 6)])
 (.seq (.draw [⟨some 21, none, .mov (.tmp 0)⟩,
 ⟨some 22, none, .nilck (.tmp 21)⟩,
 ⟨some 23, none, .ld1 (.tmp 22)⟩,
 ⟨some 24, none, .mov (.tmp 0)⟩,
 ⟨some 25, none, .nilck (.tmp 24)⟩,
 ⟨some 26, none, .ld1 (.tmp 25)⟩,
 ⟨some 27, none, .bin .shl (.tmp 26) (.const (.int .u64 17))⟩,
 ⟨some 28, none, .bin .xor (.tmp 23) (.tmp 27)⟩,
 ⟨some 29, none, .nilck (.tmp 21)⟩,
 ⟨none, none, .st 1 (.tmp 29) (.tmp 28)⟩] [(0, 3), (1, 3), (2, 3), (0, 4), (1, 4), (2, 4), (0, 5), (1, 5), (2, 5), (0, 6), (1, 6), (2, 6)])
 (.seq (.ops [⟨some 30, none, .mov (.tmp 0)⟩,
 ⟨some 31, none, .nilck (.tmp 30)⟩,
 ⟨some 32, none, .ld1 (.tmp 31)⟩,
 ⟨some 2, none, .mov (.tmp 32)⟩])
 .ret)))))⟩
theorem ok77 : compF Tryz.prog Tryz.f77 = some c77 := by kernel_rfl
def c78 : CF := ⟨15, [.tmp 6],
 (.seq (.ops [⟨some 6, none, .mov (.const (.int .i64 0))⟩])
 (.seq (.ops [⟨some 7, none, .mov (.tmp 0)⟩,
 ⟨some 8, none, .mov (.tmp 1)⟩,
 ⟨some 9, none, .bin .sub (.tmp 8) (.const (.int .i64 1))⟩,
 ⟨some 10, none, .mov (.tmp 1)⟩,
 ⟨some 11, none, .mov (.tmp 1)⟩,
 ⟨some 12, none, .bin .add (.tmp 11) (.const (.int .i64 1))⟩,
 ⟨some 13, none, .mov (.tmp 2)⟩,
 ⟨some 14, none, .call (.func 79) [(.tmp 7), (.tmp 9), (.tmp 10), (.tmp 12), (.tmp 13)]⟩,
 ⟨some 6, none, .mov (.tmp 14)⟩])
 .ret))⟩
theorem ok78 : compF Tryz.prog Tryz.f78 = some c78 := by kernel_rfl
def c79 : CF := ⟨36, [.tmp 10],
 (.seq (.ops [⟨some 10, none, .mov (.const (.int .i64 0))⟩])
 (.seq (.ops [⟨some 12, none, .mov (.tmp 0)⟩,
 ⟨some 13, none, .mov (.tmp 1)⟩,
 ⟨some 14, none, .mov (.tmp 2)⟩,
 ⟨some 15, none, .mov (.tmp 4)⟩,
 ⟨some 16, none, .call (.func 99) [(.tmp 12), (.tmp 13), (.tmp 14), (.tmp 15)]⟩,
 ⟨some 11, none, .mov (.tmp 16)⟩,
 ⟨some 17, none, .ext (.tmp 11) 0⟩,
 ⟨some 18, none, .ext (.tmp 11) 1⟩,
 ⟨some 1, none, .mov (.tmp 17)⟩,
 ⟨some 2, none, .mov (.tmp 18)⟩])
 (.seq (.ops [⟨some 20, none, .mov (.tmp 0)⟩,
 ⟨some 21, none, .mov (.tmp 2)⟩,
 ⟨some 22, none, .mov (.tmp 3)⟩,
 ⟨some 23, none, .mov (.tmp 4)⟩,
 ⟨some 24, none, .call (.func 99) [(.tmp 20), (.tmp 21), (.tmp 22), (.tmp 23)]⟩,
 ⟨some 19, none, .mov (.tmp 24)⟩,
 ⟨some 25, none, .ext (.tmp 19) 0⟩,
 ⟨some 26, none, .ext (.tmp 19) 1⟩,
 ⟨some 2, none, .mov (.tmp 25)⟩,
 ⟨some 3, none, .mov (.tmp 26)⟩])
 (.seq (.ops [⟨some 28, none, .mov (.tmp 0)⟩,
 ⟨some 29, none, .mov (.tmp 1)⟩,
 ⟨some 30, none, .mov (.tmp 2)⟩,
 ⟨some 31, none, .mov (.tmp 4)⟩,
 ⟨some 32, none, .call (.func 99) [(.tmp 28), (.tmp 29), (.tmp 30), (.tmp 31)]⟩,
 ⟨some 27, none, .mov (.tmp 32)⟩,
 ⟨some 33, none, .ext (.tmp 27) 0⟩,
 ⟨some 34, none, .ext (.tmp 27) 1⟩,
 ⟨some 1, none, .mov (.tmp 33)⟩,
 ⟨some 2, none, .mov (.tmp 34)⟩])
 (.seq (.ops [⟨some 35, none, .mov (.tmp 2)⟩,
 ⟨some 10, none, .mov (.tmp 35)⟩])
 .ret)))))⟩
theorem ok79 : compF Tryz.prog Tryz.f79 = some c79 := by kernel_rfl
def c80 : CF := ⟨6, [.tmp 2],
 (.seq (.ops [⟨some 2, none, .mov (.const (.bool false))⟩])
 (.seq (.ops [⟨some 3, none, .mov (.tmp 0)⟩,
 ⟨some 4, none, .mov (.tmp 0)⟩,
 ⟨some 5, none, .bin .neq (.tmp 3) (.tmp 4)⟩,
 ⟨some 2, none, .mov (.tmp 5)⟩])
 .ret))⟩
theorem ok80 : compF Tryz.prog Tryz.f80 = some c80 := by kernel_rfl
def c83 : CF := ⟨6, [.tmp 2],
 (.seq (.ops [⟨some 2, none, .mov (.const (.int .i64 0))⟩])
 (.seq (.ops [⟨some 3, none, .mov (.tmp 0)⟩,
 ⟨some 4, none, .bin .mul (.tmp 3) (.const (.int .i64 78913))⟩,
 ⟨some 5, none, .bin .shr (.tmp 4) (.const (.int .u64 18))⟩,
 ⟨some 2, none, .mov (.tmp 5)⟩])
 .ret))⟩
theorem ok83 : compF Tryz.prog Tryz.f83 = some c83 := by kernel_rfl
def c84 : CF := ⟨4, [.tmp 2],
 (.seq (.ops [⟨some 2, none, .mov (.const (.int .i64 0))⟩])
 (.seq (.seq (.ops [⟨some 3, none, .mov (.tmp 0)⟩])
 (.cond (.tmp 3)
 (.seq (.ops [⟨some 2, none, .mov (.const (.int .i64 1))⟩])
 .ret)
 .skip))
 (.seq (.ops [⟨some 2, none, .mov (.const (.int .i64 0))⟩])
 .ret)))⟩
theorem ok84 : compF Tryz.prog Tryz.f84 = some c84 := by kernel_rfl
def c85 : CF := ⟨8, [.tmp 2],
 (.seq (.ops [⟨some 2, none, .mov (.const (.bool false))⟩])
 (.seq (.ops [⟨some 3, none, .mov (.tmp 0)⟩,
 ⟨some 4, none, .mov (.tmp 0)⟩,
 ⟨some 5, none, .bin .sub (.tmp 4) (.const (.int .i64 1))⟩,
 ⟨some 6, none, .bin .and (.tmp 3) (.tmp 5)⟩,
 ⟨some 7, none, .bin .eql (.tmp 6) (.const (.int .i64 0))⟩,
 ⟨some 2, none, .mov (.tmp 7)⟩])
 .ret))⟩
theorem ok85 : compF Tryz.prog Tryz.f85 = some c85 := by kernel_rfl
def c86 : CF := ⟨8, [.tmp 2],
 (.seq (.ops [⟨some 2, none, .mov (.const (.int .i64 0))⟩])
 (.seq (.cond (.const (.bool false))
 (.seq (.ops [⟨some 3, none, .mov (.tmp 0)⟩,
 ⟨some 4, none, .cvi .u32 (.tmp 3)⟩,
 ⟨some 5, none, .call (.func 100) [(.tmp 4)]⟩,
 ⟨some 2, none, .mov (.tmp 5)⟩])
 .ret)
 .skip)
 (.seq (.ops [⟨some 6, none, .mov (.tmp 0)⟩,
 ⟨some 7, none, .call (.func 101) [(.tmp 6)]⟩,
 ⟨some 2, none, .mov (.tmp 7)⟩])
 .ret)))⟩
theorem ok86 : compF Tryz.prog Tryz.f86 = some c86 := by kernel_rfl
def c87 : CF := ⟨17, [.tmp 4],
 (.seq (.ops [⟨some 4, none, .mov (.const (.string ⟨#[]⟩))⟩])
 (.seq (.block 0 (.loop (.seq (.seq (.ops [⟨some 5, none, .mov (.tmp 0)⟩,
 ⟨some 6, none, .lns (.tmp 5)⟩,
 ⟨some 7, none, .bin .gtr (.tmp 6) (.const (.int .i64 0))⟩,
 ⟨some 8, none, .mov (.tmp 7)⟩,
 ⟨some 9, (some (8, true)), .mov (.tmp 0)⟩,
 ⟨some 10, (some (8, true)), .ids (.tmp 9) (.const (.int .i64 0))⟩,
 ⟨some 11, (some (8, true)), .mov (.tmp 1)⟩,
 ⟨some 12, (some (8, true)), .bin .eql (.tmp 10) (.tmp 11)⟩,
 ⟨some 13, none, .pick (.tmp 8) (.tmp 12) (.const (.bool false))⟩])
 (.cond (.tmp 13)
 .skip
 (.exit 0)))
 (.block 1 (.ops [⟨some 14, none, .mov (.tmp 0)⟩,
 ⟨some 15, none, .sls (.tmp 14) (some (.const (.int .i64 1))) none⟩,
 ⟨some 0, none, .mov (.tmp 15)⟩])))))
 (.seq (.ops [⟨some 16, none, .mov (.tmp 0)⟩,
 ⟨some 4, none, .mov (.tmp 16)⟩])
 .ret)))⟩
theorem ok87 : compF Tryz.prog Tryz.f87 = some c87 := by kernel_rfl
def c88 : CF := ⟨21, [.cells 2 256, .tmp 3],
 (.seq (.ops [⟨some 2, none, .newz [(.bool false), (.bool false), (.bool false), (.bool false), (.bool false), (.bool false), (.bool false), (.bool false), (.bool false), (.bool false), (.bool false), (.bool false), (.bool false), (.bool false), (.bool false), (.bool false), (.bool false), (.bool false), (.bool false), (.bool false), (.bool false), (.bool false), (.bool false), (.bool false), (.bool false), (.bool false), (.bool false), (.bool false), (.bool false), (.bool false), (.bool false), (.bool false), (.bool false), (.bool false), (.bool false), (.bool false), (.bool false), (.bool false), (.bool false), (.bool false), (.bool false), (.bool false), (.bool false), (.bool false), (.bool false), (.bool false), (.bool false), (.bool false), (.bool false), (.bool false), (.bool false), (.bool false), (.bool false), (.bool false), (.bool false), (.bool false), (.bool false), (.bool false), (.bool false), (.bool false), (.bool false), (.bool false), (.bool false), (.bool false), (.bool false), (.bool false), (.bool false), (.bool false), (.bool false), (.bool false), (.bool false), (.bool false), (.bool false), (.bool false), (.bool false), (.bool false), (.bool false), (.bool false), (.bool false), (.bool false), (.bool false), (.bool false), (.bool false), (.bool false), (.bool false), (.bool false), (.bool false), (.bool false), (.bool false), (.bool false), (.bool false), (.bool false), (.bool false), (.bool false), (.bool false), (.bool false), (.bool false), (.bool false), (.bool false), (.bool false), (.bool false), (.bool false), (.bool false), (.bool false), (.bool false), (.bool false), (.bool false), (.bool false), (.bool false), (.bool false), (.bool false), (.bool false), (.bool false), (.bool false), (.bool false), (.bool false), (.bool false), (.bool false), (.bool false), (.bool false), (.bool false), (.bool false), (.bool false), (.bool false), (.bool false), (.bool false), (.bool false), (.bool false), (.bool false), (.bool false), (.bool false), (.bool false), (.bool false), (.bool false), (.bool false), (.bool false), (.bool false), (.bool false), (.bool false), (.bool false), (.bool false), (.bool false), (.bool false), (.bool false), (.bool false), (.bool false), (.bool false), (.bool false), (.bool false), (.bool false), (.bool false), (.bool false), (.bool false), (.bool false), (.bool false), (.bool false), (.bool false), (.bool false), (.bool false), (.bool false), (.bool false), (.bool false), (.bool false), (.bool false), (.bool false), (.bool false), (.bool false), (.bool false), (.bool false), (.bool false), (.bool false), (.bool false), (.bool false), (.bool false), (.bool false), (.bool false), (.bool false), (.bool false), (.bool false), (.bool false), (.bool false), (.bool false), (.bool false), (.bool false), (.bool false), (.bool false), (.bool false), (.bool false), (.bool false), (.bool false), (.bool false), (.bool false), (.bool false), (.bool false), (.bool false), (.bool false), (.bool false), (.bool false), (.bool false), (.bool false), (.bool false), (.bool false), (.bool false), (.bool false), (.bool false), (.bool false), (.bool false), (.bool false), (.bool false), (.bool false), (.bool false), (.bool false), (.bool false), (.bool false), (.bool false), (.bool false), (.bool false), (.bool false), (.bool false), (.bool false), (.bool false), (.bool false), (.bool false), (.bool false), (.bool false), (.bool false), (.bool false), (.bool false), (.bool false), (.bool false), (.bool false), (.bool false), (.bool false), (.bool false), (.bool false), (.bool false), (.bool false), (.bool false), (.bool false), (.bool false), (.bool false), (.bool false), (.bool false), (.bool false), (.bool false), (.bool false), (.bool false), (.bool false), (.bool false), (.bool false), (.bool false), (.bool false), (.bool false), (.bool false), (.bool false), (.bool false)]⟩,
 ⟨some 3, none, .mov (.const (.bool false))⟩])
 (.seq (.seq (.ops [⟨some 4, none, .mov (.const (.int .i64 0))⟩])
 (.block 0 (.loop (.seq (.seq (.ops [⟨some 6, none, .mov (.tmp 4)⟩,
 ⟨some 7, none, .mov (.tmp 0)⟩,
 ⟨some 8, none, .lns (.tmp 7)⟩,
 ⟨some 9, none, .bin .lss (.tmp 6) (.tmp 8)⟩])
 (.cond (.tmp 9)
 .skip
 (.exit 0)))
 (.seq (.block 1 (.seq (.ops [⟨some 12, none, .mov (.tmp 0)⟩,
 ⟨some 13, none, .mov (.tmp 4)⟩,
 ⟨some 14, none, .ids (.tmp 12) (.tmp 13)⟩,
 ⟨some 5, none, .mov (.tmp 14)⟩])
 (.seq (.seq (.ops [⟨some 15, none, .mov (.tmp 5)⟩,
 ⟨some 16, none, .bin .geq (.tmp 15) (.const (.int .u8 128))⟩])
 (.cond (.tmp 16)
 (.seq (.ops [⟨some 17, none, .ld 256 (.tmp 2)⟩,
 ⟨none, none, .st 256 (.tmp 2) (.tmp 17)⟩,
 ⟨some 3, none, .mov (.const (.bool false))⟩])
 .ret)
 .skip))
 (.ops [⟨some 18, none, .mov (.tmp 5)⟩,
 ⟨some 19, none, .iaa 256 1 (.tmp 2) (.tmp 18)⟩,
 ⟨none, none, .st 1 (.tmp 19) (.const (.bool true))⟩]))))
 (.ops [⟨some 10, none, .mov (.tmp 4)⟩,
 ⟨some 11, none, .bin .add (.tmp 10) (.const (.int .i64 1))⟩,
 ⟨some 4, none, .mov (.tmp 11)⟩]))))))
 (.seq (.ops [⟨some 20, none, .ld 256 (.tmp 2)⟩,
 ⟨none, none, .st 256 (.tmp 2) (.tmp 20)⟩,
 ⟨some 3, none, .mov (.const (.bool true))⟩])
 .ret)))⟩
theorem ok88 : compF Tryz.prog Tryz.f88 = some c88 := by kernel_rfl
def c89 : CF := ⟨16, [.tmp 4],
 (.seq (.ops [⟨some 4, none, .mov (.const (.string ⟨#[]⟩))⟩])
 (.seq (.block 0 (.loop (.seq (.seq (.ops [⟨some 5, none, .mov (.tmp 0)⟩,
 ⟨some 6, none, .lns (.tmp 5)⟩,
 ⟨some 7, none, .bin .gtr (.tmp 6) (.const (.int .i64 0))⟩])
 (.cond (.tmp 7)
 .skip
 (.exit 0)))
 (.block 1 (.seq (.seq (.ops [⟨some 8, none, .mov (.tmp 1)⟩,
 ⟨some 9, none, .mov (.tmp 0)⟩,
 ⟨some 10, none, .ids (.tmp 9) (.const (.int .i64 0))⟩,
 ⟨some 11, none, .call (.func 102) [(.tmp 8), (.tmp 10)]⟩,
 ⟨some 12, none, .un .not (.tmp 11)⟩])
 (.cond (.tmp 12)
 (.exit 0)
 .skip))
 (.ops [⟨some 13, none, .mov (.tmp 0)⟩,
 ⟨some 14, none, .sls (.tmp 13) (some (.const (.int .i64 1))) none⟩,
 ⟨some 0, none, .mov (.tmp 14)⟩]))))))
 (.seq (.ops [⟨some 15, none, .mov (.tmp 0)⟩,
 ⟨some 4, none, .mov (.tmp 15)⟩])
 .ret)))⟩
theorem ok89 : compF Tryz.prog Tryz.f89 = some c89 := by kernel_rfl
def c90 : CF := ⟨23, [.tmp 4],
 (.seq (.ops [⟨some 4, none, .mov (.const (.string ⟨#[]⟩))⟩])
 (.seq (.block 0 (.loop (.seq (.seq (.ops [⟨some 7, none, .mov (.tmp 0)⟩,
 ⟨some 8, none, .lns (.tmp 7)⟩,
 ⟨some 9, none, .bin .gtr (.tmp 8) (.const (.int .i64 0))⟩])
 (.cond (.tmp 9)
 .skip
 (.exit 0)))
 (.block 1 (.seq (.ops [⟨some 11, none, .mov (.tmp 0)⟩,
 ⟨some 12, none, .call (.func 103) [(.tmp 11)]⟩,
 ⟨some 10, none, .mov (.tmp 12)⟩,
 ⟨some 13, none, .ext (.tmp 10) 0⟩,
 ⟨some 14, none, .ext (.tmp 10) 1⟩,
 ⟨some 5, none, .mov (.tmp 13)⟩,
 ⟨some 6, none, .mov (.tmp 14)⟩])
 (.seq (.seq (.ops [⟨some 15, none, .mov (.tmp 1)⟩,
 ⟨some 16, none, .mov (.tmp 5)⟩,
 ⟨some 17, none, .call (.func 104) [(.tmp 15), (.tmp 16)]⟩,
 ⟨some 18, none, .un .not (.tmp 17)⟩])
 (.cond (.tmp 18)
 (.exit 0)
 .skip))
 (.ops [⟨some 19, none, .mov (.tmp 0)⟩,
 ⟨some 20, none, .mov (.tmp 6)⟩,
 ⟨some 21, none, .sls (.tmp 19) (some (.tmp 20)) none⟩,
 ⟨some 0, none, .mov (.tmp 21)⟩])))))))
 (.seq (.ops [⟨some 22, none, .mov (.tmp 0)⟩,
 ⟨some 4, none, .mov (.tmp 22)⟩])
 .ret)))⟩
theorem ok90 : compF Tryz.prog Tryz.f90 = some c90 := by kernel_rfl
def c91 : CF := ⟨13, [.tmp 4],
 (.seq (.ops [⟨some 4, none, .mov (.const (.string ⟨#[]⟩))⟩])
 (.seq (.seq (.ops [⟨some 5, none, .mov (.tmp 0)⟩,
 ⟨some 6, none, .mov (.tmp 1)⟩,
 ⟨some 7, none, .call (.func 93) [(.tmp 5), (.tmp 6)]⟩])
 (.cond (.tmp 7)
 (.seq (.ops [⟨some 8, none, .mov (.tmp 0)⟩,
 ⟨some 9, none, .mov (.tmp 1)⟩,
 ⟨some 10, none, .lns (.tmp 9)⟩,
 ⟨some 11, none, .sls (.tmp 8) (some (.tmp 10)) none⟩,
 ⟨some 4, none, .mov (.tmp 11)⟩])
 .ret)
 .skip))
 (.seq (.ops [⟨some 12, none, .mov (.tmp 0)⟩,
 ⟨some 4, none, .mov (.tmp 12)⟩])
 .ret)))⟩
theorem ok91 : compF Tryz.prog Tryz.f91 = some c91 := by kernel_rfl
end Go.Proofs.YtoknkolaajlhbaaGreatDoor.code
