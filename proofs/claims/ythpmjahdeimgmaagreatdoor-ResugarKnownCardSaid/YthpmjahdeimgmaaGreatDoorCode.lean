/- The code that the law reaches, as the interpreter takes it; each function's is shown to be the program's own. By an AI agent. No person has read it. -/
import Derived.Test.YthpmjahdeimgmaaGreatDoorCodeA
import Derived.Test.YthpmjahdeimgmaaGreatDoorChecked
import Derived.KernelRfl
namespace Go.Proofs.YthpmjahdeimgmaaGreatDoor.code
open Go Am
set_option maxRecDepth 100000
def c89 : CF := ⟨236, [.cells 6 3, .tmp 7],
 (.seq (.ops [⟨some 6, none, .newz [(.int .i64 0), (.int .i64 0), (.bool false)]⟩,
 ⟨some 7, none, .mov (.const (.bool false))⟩])
 (.seq (.ops [⟨some 13, none, .mov (.tmp 0)⟩,
 ⟨some 14, none, .nilck (.tmp 13)⟩,
 ⟨some 15, none, .fad (.tmp 14) 0⟩,
 ⟨some 16, none, .ld1 (.tmp 15)⟩,
 ⟨some 17, none, .mov (.tmp 1)⟩,
 ⟨some 18, none, .iad 6 (.tmp 16) (.tmp 17)⟩,
 ⟨some 19, none, .ld 6 (.tmp 18)⟩,
 ⟨some 8, none, .newz [(.int .i64 0), (.int .i64 0), (.int .i64 0), (.string ⟨#[]⟩), (.int .i32 0), (.int .i32 0)]⟩,
 ⟨none, none, .st 6 (.tmp 8) (.tmp 19)⟩])
 (.seq (.ops [⟨some 20, none, .mov (.tmp 0)⟩,
 ⟨some 21, none, .mov (.tmp 1)⟩,
 ⟨some 22, none, .call (.func 37) [(.tmp 20), (.tmp 21)]⟩,
 ⟨some 9, none, .mov (.tmp 22)⟩])
 (.seq (.block 0 (.seq (.ops [⟨some 24, none, .mov (.tmp 2)⟩,
 ⟨some 25, none, .bin .eql (.tmp 24) (.const (.int .i64 18))⟩,
 ⟨some 26, none, .mov (.tmp 25)⟩,
 ⟨some 27, (some (26, true)), .mov (.tmp 0)⟩,
 ⟨some 28, (some (26, true)), .mov (.tmp 1)⟩,
 ⟨some 29, (some (26, true)), .call (.func 64) [(.tmp 27), (.tmp 28), (.const (.int .i64 10)), (.const (.int .i32 13))]⟩,
 ⟨some 30, none, .pick (.tmp 26) (.tmp 29) (.const (.bool false))⟩,
 ⟨some 23, none, .mov (.tmp 30)⟩])
 (.cond (.tmp 23)
 (.seq (.draw [⟨some 31, none, .mov (.tmp 0)⟩,
 ⟨some 32, none, .nilck (.tmp 31)⟩,
 ⟨some 33, none, .fad (.tmp 32) 0⟩,
 ⟨some 34, none, .ld1 (.tmp 33)⟩,
 ⟨some 35, none, .mov (.tmp 9)⟩,
 ⟨some 36, none, .iad 1 (.tmp 35) (.const (.int .i64 2))⟩,
 ⟨some 37, none, .ld1 (.tmp 36)⟩,
 ⟨some 38, none, .iad 6 (.tmp 34) (.tmp 37)⟩,
 ⟨some 39, none, .fad (.tmp 38) 0⟩,
 ⟨some 40, none, .ld1 (.tmp 39)⟩,
 ⟨some 41, none, .bin .eql (.tmp 40) (.const (.int .i64 2))⟩,
 ⟨some 42, none, .mov (.tmp 41)⟩,
 ⟨some 43, (some (42, true)), .mov (.tmp 0)⟩,
 ⟨some 44, (some (42, true)), .nilck (.tmp 43)⟩,
 ⟨some 45, (some (42, true)), .fad (.tmp 44) 0⟩,
 ⟨some 46, (some (42, true)), .ld1 (.tmp 45)⟩,
 ⟨some 47, (some (42, true)), .mov (.tmp 9)⟩,
 ⟨some 48, (some (42, true)), .iad 1 (.tmp 47) (.const (.int .i64 2))⟩,
 ⟨some 49, (some (42, true)), .ld1 (.tmp 48)⟩,
 ⟨some 50, (some (42, true)), .iad 6 (.tmp 46) (.tmp 49)⟩,
 ⟨some 51, (some (42, true)), .fad (.tmp 50) 2⟩,
 ⟨some 52, (some (42, true)), .ld1 (.tmp 51)⟩,
 ⟨some 53, (some (42, true)), .bin .eql (.tmp 52) (.const (.int .i64 0))⟩,
 ⟨some 54, none, .pick (.tmp 42) (.tmp 53) (.const (.bool false))⟩,
 ⟨some 55, none, .call (.func 36) [(.tmp 54)]⟩] [(0, 4), (1, 4), (2, 4), (3, 4), (0, 5), (1, 5), (2, 5), (3, 5), (0, 6), (1, 6), (2, 6), (3, 6), (12, 16), (13, 16), (14, 16), (15, 16), (12, 17), (13, 17), (14, 17), (15, 17), (12, 18), (13, 18), (14, 18), (15, 18)])
 (.seq (.draw [⟨some 56, none, .mov (.tmp 9)⟩,
 ⟨some 57, none, .iad 1 (.tmp 56) (.const (.int .i64 0))⟩,
 ⟨some 58, none, .ld1 (.tmp 57)⟩,
 ⟨some 59, none, .mov (.tmp 9)⟩,
 ⟨some 60, none, .iad 1 (.tmp 59) (.const (.int .i64 1))⟩,
 ⟨some 61, none, .ld1 (.tmp 60)⟩,
 ⟨some 62, none, .agg [(.int .i64 0), (.int .i64 0), (.bool false)] [(0, 1, (.tmp 58)), (1, 1, (.tmp 61)), (2, 1, (.const (.bool false)))]⟩,
 ⟨none, none, .st 3 (.tmp 6) (.tmp 62)⟩,
 ⟨some 7, none, .mov (.const (.bool true))⟩] [(0, 3), (1, 3), (2, 3), (0, 4), (1, 4), (2, 4), (0, 5), (1, 5), (2, 5)])
 .ret))
 (.seq (.ops [⟨some 64, none, .mov (.tmp 2)⟩,
 ⟨some 65, none, .bin .eql (.tmp 64) (.const (.int .i64 23))⟩,
 ⟨some 66, none, .mov (.tmp 65)⟩,
 ⟨some 67, (some (66, true)), .mov (.tmp 0)⟩,
 ⟨some 68, (some (66, true)), .mov (.tmp 1)⟩,
 ⟨some 69, (some (66, true)), .call (.func 64) [(.tmp 67), (.tmp 68), (.const (.int .i64 9)), (.const (.int .i32 25))]⟩,
 ⟨some 70, none, .pick (.tmp 66) (.tmp 69) (.const (.bool false))⟩,
 ⟨some 63, none, .mov (.tmp 70)⟩])
 (.cond (.tmp 63)
 (.seq (.draw [⟨some 71, none, .mov (.tmp 9)⟩,
 ⟨some 72, none, .lnl (.tmp 71)⟩,
 ⟨some 73, none, .bin .eql (.tmp 72) (.const (.int .i64 3))⟩,
 ⟨some 74, none, .mov (.tmp 73)⟩,
 ⟨some 75, (some (74, true)), .mov (.tmp 0)⟩,
 ⟨some 76, (some (74, true)), .nilck (.tmp 75)⟩,
 ⟨some 77, (some (74, true)), .fad (.tmp 76) 0⟩,
 ⟨some 78, (some (74, true)), .ld1 (.tmp 77)⟩,
 ⟨some 79, (some (74, true)), .mov (.tmp 9)⟩,
 ⟨some 80, (some (74, true)), .iad 1 (.tmp 79) (.const (.int .i64 0))⟩,
 ⟨some 81, (some (74, true)), .ld1 (.tmp 80)⟩,
 ⟨some 82, (some (74, true)), .iad 6 (.tmp 78) (.tmp 81)⟩,
 ⟨some 83, (some (74, true)), .fad (.tmp 82) 0⟩,
 ⟨some 84, (some (74, true)), .ld1 (.tmp 83)⟩,
 ⟨some 85, (some (74, true)), .bin .eql (.tmp 84) (.const (.int .i64 6))⟩,
 ⟨some 86, none, .pick (.tmp 74) (.tmp 85) (.const (.bool false))⟩,
 ⟨some 87, none, .mov (.tmp 86)⟩,
 ⟨some 88, (some (87, true)), .mov (.tmp 0)⟩,
 ⟨some 89, (some (87, true)), .nilck (.tmp 88)⟩,
 ⟨some 90, (some (87, true)), .fad (.tmp 89) 0⟩,
 ⟨some 91, (some (87, true)), .ld1 (.tmp 90)⟩,
 ⟨some 92, (some (87, true)), .mov (.tmp 9)⟩,
 ⟨some 93, (some (87, true)), .iad 1 (.tmp 92) (.const (.int .i64 0))⟩,
 ⟨some 94, (some (87, true)), .ld1 (.tmp 93)⟩,
 ⟨some 95, (some (87, true)), .iad 6 (.tmp 91) (.tmp 94)⟩,
 ⟨some 96, (some (87, true)), .fad (.tmp 95) 3⟩,
 ⟨some 97, (some (87, true)), .ld1 (.tmp 96)⟩,
 ⟨some 98, (some (87, true)), .bin .eql (.tmp 97) (.const (.string ⟨#[99, 111, 110, 115]⟩))⟩,
 ⟨some 99, none, .pick (.tmp 87) (.tmp 98) (.const (.bool false))⟩,
 ⟨some 100, none, .call (.func 36) [(.tmp 99)]⟩] [(4, 8), (5, 8), (6, 8), (7, 8), (4, 9), (5, 9), (6, 9), (7, 9), (4, 10), (5, 10), (6, 10), (7, 10), (17, 21), (18, 21), (19, 21), (20, 21), (17, 22), (18, 22), (19, 22), (20, 22), (17, 23), (18, 23), (19, 23), (20, 23)])
 (.seq (.draw [⟨some 101, none, .mov (.tmp 9)⟩,
 ⟨some 102, none, .iad 1 (.tmp 101) (.const (.int .i64 1))⟩,
 ⟨some 103, none, .ld1 (.tmp 102)⟩,
 ⟨some 104, none, .mov (.tmp 9)⟩,
 ⟨some 105, none, .iad 1 (.tmp 104) (.const (.int .i64 2))⟩,
 ⟨some 106, none, .ld1 (.tmp 105)⟩,
 ⟨some 107, none, .agg [(.int .i64 0), (.int .i64 0), (.bool false)] [(0, 1, (.tmp 103)), (1, 1, (.tmp 106)), (2, 1, (.const (.bool false)))]⟩,
 ⟨none, none, .st 3 (.tmp 6) (.tmp 107)⟩,
 ⟨some 7, none, .mov (.const (.bool true))⟩] [(0, 3), (1, 3), (2, 3), (0, 4), (1, 4), (2, 4), (0, 5), (1, 5), (2, 5)])
 .ret))
 (.seq (.ops [⟨some 109, none, .mov (.tmp 2)⟩,
 ⟨some 110, none, .bin .eql (.tmp 109) (.const (.int .i64 22))⟩,
 ⟨some 111, none, .mov (.tmp 110)⟩,
 ⟨some 112, (some (111, true)), .mov (.tmp 0)⟩,
 ⟨some 113, (some (111, true)), .mov (.tmp 1)⟩,
 ⟨some 114, (some (111, true)), .call (.func 64) [(.tmp 112), (.tmp 113), (.const (.int .i64 9)), (.const (.int .i32 23))]⟩,
 ⟨some 115, none, .pick (.tmp 111) (.tmp 114) (.const (.bool false))⟩,
 ⟨some 108, none, .mov (.tmp 115)⟩])
 (.cond (.tmp 108)
 (.seq (.draw [⟨some 116, none, .mov (.tmp 9)⟩,
 ⟨some 117, none, .lnl (.tmp 116)⟩,
 ⟨some 118, none, .bin .eql (.tmp 117) (.const (.int .i64 2))⟩,
 ⟨some 119, none, .mov (.tmp 118)⟩,
 ⟨some 120, (some (119, true)), .mov (.tmp 0)⟩,
 ⟨some 121, (some (119, true)), .mov (.tmp 9)⟩,
 ⟨some 122, (some (119, true)), .iad 1 (.tmp 121) (.const (.int .i64 0))⟩,
 ⟨some 123, (some (119, true)), .ld1 (.tmp 122)⟩,
 ⟨some 124, (some (119, true)), .call (.func 64) [(.tmp 120), (.tmp 123), (.const (.int .i64 8)), (.const (.int .i32 24))]⟩,
 ⟨some 125, none, .pick (.tmp 119) (.tmp 124) (.const (.bool false))⟩,
 ⟨some 126, none, .mov (.tmp 125)⟩,
 ⟨some 127, (some (126, true)), .mov (.tmp 0)⟩,
 ⟨some 128, (some (126, true)), .nilck (.tmp 127)⟩,
 ⟨some 129, (some (126, true)), .fad (.tmp 128) 0⟩,
 ⟨some 130, (some (126, true)), .ld1 (.tmp 129)⟩,
 ⟨some 131, (some (126, true)), .mov (.tmp 9)⟩,
 ⟨some 132, (some (126, true)), .iad 1 (.tmp 131) (.const (.int .i64 0))⟩,
 ⟨some 133, (some (126, true)), .ld1 (.tmp 132)⟩,
 ⟨some 134, (some (126, true)), .iad 6 (.tmp 130) (.tmp 133)⟩,
 ⟨some 135, (some (126, true)), .fad (.tmp 134) 2⟩,
 ⟨some 136, (some (126, true)), .ld1 (.tmp 135)⟩,
 ⟨some 137, (some (126, true)), .bin .eql (.tmp 136) (.const (.int .i64 1))⟩,
 ⟨some 138, none, .pick (.tmp 126) (.tmp 137) (.const (.bool false))⟩,
 ⟨some 139, none, .call (.func 36) [(.tmp 138)]⟩] [(4, 5), (4, 6), (4, 7), (11, 15), (12, 15), (13, 15), (14, 15), (11, 16), (12, 16), (13, 16), (14, 16), (11, 17), (12, 17), (13, 17), (14, 17)])
 (.seq (.draw [⟨some 140, none, .mov (.tmp 9)⟩,
 ⟨some 141, none, .iad 1 (.tmp 140) (.const (.int .i64 1))⟩,
 ⟨some 142, none, .ld1 (.tmp 141)⟩,
 ⟨some 143, none, .mov (.tmp 9)⟩,
 ⟨some 144, none, .iad 1 (.tmp 143) (.const (.int .i64 0))⟩,
 ⟨some 145, none, .ld1 (.tmp 144)⟩,
 ⟨some 146, none, .bin .add (.tmp 145) (.const (.int .i64 1))⟩,
 ⟨some 147, none, .agg [(.int .i64 0), (.int .i64 0), (.bool false)] [(0, 1, (.tmp 142)), (1, 1, (.tmp 146)), (2, 1, (.const (.bool true)))]⟩,
 ⟨none, none, .st 3 (.tmp 6) (.tmp 147)⟩,
 ⟨some 7, none, .mov (.const (.bool true))⟩] [(0, 3), (1, 3), (2, 3), (0, 4), (1, 4), (2, 4), (0, 5), (1, 5), (2, 5), (0, 6), (1, 6), (2, 6)])
 .ret))
 (.seq (.ops [⟨some 149, none, .mov (.tmp 2)⟩,
 ⟨some 150, none, .bin .eql (.tmp 149) (.const (.int .i64 19))⟩,
 ⟨some 151, none, .mov (.tmp 150)⟩,
 ⟨some 152, (some (151, true)), .fad (.tmp 8) 4⟩,
 ⟨some 153, (some (151, true)), .ld1 (.tmp 152)⟩,
 ⟨some 154, (some (151, true)), .bin .eql (.tmp 153) (.const (.int .i32 16))⟩,
 ⟨some 155, none, .pick (.tmp 151) (.tmp 154) (.const (.bool false))⟩,
 ⟨some 148, none, .mov (.tmp 155)⟩])
 (.cond (.tmp 148)
 (.seq (.draw [⟨some 156, none, .mov (.tmp 0)⟩,
 ⟨some 157, none, .mov (.tmp 1)⟩,
 ⟨some 158, none, .call (.func 64) [(.tmp 156), (.tmp 157), (.const (.int .i64 9)), (.const (.int .i32 16))]⟩,
 ⟨some 159, none, .mov (.tmp 158)⟩,
 ⟨some 160, (some (159, true)), .mov (.tmp 9)⟩,
 ⟨some 161, (some (159, true)), .lnl (.tmp 160)⟩,
 ⟨some 162, (some (159, true)), .bin .eql (.tmp 161) (.const (.int .i64 2))⟩,
 ⟨some 163, none, .pick (.tmp 159) (.tmp 162) (.const (.bool false))⟩,
 ⟨some 164, none, .mov (.tmp 163)⟩,
 ⟨some 165, (some (164, true)), .mov (.tmp 0)⟩,
 ⟨some 166, (some (164, true)), .mov (.tmp 9)⟩,
 ⟨some 167, (some (164, true)), .iad 1 (.tmp 166) (.const (.int .i64 0))⟩,
 ⟨some 168, (some (164, true)), .ld1 (.tmp 167)⟩,
 ⟨some 169, (some (164, true)), .call (.func 64) [(.tmp 165), (.tmp 168), (.const (.int .i64 8)), (.const (.int .i32 17))]⟩,
 ⟨some 170, none, .pick (.tmp 164) (.tmp 169) (.const (.bool false))⟩,
 ⟨some 171, none, .mov (.tmp 170)⟩,
 ⟨some 172, (some (171, true)), .mov (.tmp 0)⟩,
 ⟨some 173, (some (171, true)), .nilck (.tmp 172)⟩,
 ⟨some 174, (some (171, true)), .fad (.tmp 173) 0⟩,
 ⟨some 175, (some (171, true)), .ld1 (.tmp 174)⟩,
 ⟨some 176, (some (171, true)), .mov (.tmp 9)⟩,
 ⟨some 177, (some (171, true)), .iad 1 (.tmp 176) (.const (.int .i64 0))⟩,
 ⟨some 178, (some (171, true)), .ld1 (.tmp 177)⟩,
 ⟨some 179, (some (171, true)), .iad 6 (.tmp 175) (.tmp 178)⟩,
 ⟨some 180, (some (171, true)), .fad (.tmp 179) 2⟩,
 ⟨some 181, (some (171, true)), .ld1 (.tmp 180)⟩,
 ⟨some 182, (some (171, true)), .bin .eql (.tmp 181) (.const (.int .i64 1))⟩,
 ⟨some 183, none, .pick (.tmp 171) (.tmp 182) (.const (.bool false))⟩,
 ⟨some 184, none, .mov (.tmp 183)⟩,
 ⟨some 185, (some (184, true)), .mov (.tmp 0)⟩,
 ⟨some 186, (some (184, true)), .mov (.tmp 9)⟩,
 ⟨some 187, (some (184, true)), .iad 1 (.tmp 186) (.const (.int .i64 0))⟩,
 ⟨some 188, (some (184, true)), .ld1 (.tmp 187)⟩,
 ⟨some 189, (some (184, true)), .bin .add (.tmp 188) (.const (.int .i64 1))⟩,
 ⟨some 190, (some (184, true)), .call (.func 64) [(.tmp 185), (.tmp 189), (.const (.int .i64 10)), (.const (.int .i32 18))]⟩,
 ⟨some 191, none, .pick (.tmp 184) (.tmp 190) (.const (.bool false))⟩,
 ⟨some 192, none, .call (.func 36) [(.tmp 191)]⟩] [(0, 1), (9, 10), (9, 11), (9, 12), (16, 20), (17, 20), (18, 20), (19, 20), (16, 21), (17, 21), (18, 21), (19, 21), (16, 22), (17, 22), (18, 22), (19, 22), (29, 30), (29, 31), (29, 32), (29, 33)])
 (.seq (.ops [⟨some 193, none, .mov (.tmp 0)⟩,
 ⟨some 194, none, .mov (.tmp 9)⟩,
 ⟨some 195, none, .iad 1 (.tmp 194) (.const (.int .i64 0))⟩,
 ⟨some 196, none, .ld1 (.tmp 195)⟩,
 ⟨some 197, none, .bin .add (.tmp 196) (.const (.int .i64 1))⟩,
 ⟨some 198, none, .call (.func 37) [(.tmp 193), (.tmp 197)]⟩,
 ⟨some 10, none, .mov (.tmp 198)⟩])
 (.seq (.seq (.ops [⟨some 199, none, .mov (.tmp 10)⟩,
 ⟨some 200, none, .sl 1 (.tmp 199) none (some (.const (.int .i64 2))) none⟩,
 ⟨some 201, none, .lnl (.tmp 200)⟩,
 ⟨some 202, none, .mov (.const (.int .i64 0))⟩])
 (.block 1 (.loop (.seq (.ops [⟨some 203, none, .bin .lss (.tmp 202) (.tmp 201)⟩])
 (.seq (.cond (.tmp 203)
 .skip
 (.exit 1))
 (.seq (.block 2 (.seq (.ops [⟨some 204, none, .iad 1 (.tmp 200) (.tmp 202)⟩,
 ⟨some 205, none, .ld1 (.tmp 204)⟩,
 ⟨some 12, none, .mov (.tmp 205)⟩])
 (.ops [⟨some 206, none, .mov (.tmp 0)⟩,
 ⟨some 207, none, .nilck (.tmp 206)⟩,
 ⟨some 208, none, .fad (.tmp 207) 0⟩,
 ⟨some 209, none, .ld1 (.tmp 208)⟩,
 ⟨some 210, none, .mov (.tmp 12)⟩,
 ⟨some 211, none, .iad 6 (.tmp 209) (.tmp 210)⟩,
 ⟨some 212, none, .fad (.tmp 211) 0⟩,
 ⟨some 213, none, .ld1 (.tmp 212)⟩,
 ⟨some 214, none, .bin .eql (.tmp 213) (.const (.int .i64 7))⟩,
 ⟨some 215, none, .mov (.tmp 214)⟩,
 ⟨some 216, (some (215, true)), .mov (.tmp 0)⟩,
 ⟨some 217, (some (215, true)), .nilck (.tmp 216)⟩,
 ⟨some 218, (some (215, true)), .fad (.tmp 217) 0⟩,
 ⟨some 219, (some (215, true)), .ld1 (.tmp 218)⟩,
 ⟨some 220, (some (215, true)), .mov (.tmp 12)⟩,
 ⟨some 221, (some (215, true)), .iad 6 (.tmp 219) (.tmp 220)⟩,
 ⟨some 222, (some (215, true)), .fad (.tmp 221) 2⟩,
 ⟨some 223, (some (215, true)), .ld1 (.tmp 222)⟩,
 ⟨some 224, (some (215, true)), .bin .eql (.tmp 223) (.const (.int .i64 0))⟩,
 ⟨some 225, none, .pick (.tmp 215) (.tmp 224) (.const (.bool false))⟩,
 ⟨some 226, none, .call (.func 36) [(.tmp 225)]⟩])))
 (.ops [⟨some 227, none, .bin .add (.tmp 202) (.const (.int .i64 1))⟩,
 ⟨some 202, none, .mov (.tmp 227)⟩])))))))
 (.seq (.draw [⟨some 228, none, .mov (.tmp 9)⟩,
 ⟨some 229, none, .iad 1 (.tmp 228) (.const (.int .i64 1))⟩,
 ⟨some 230, none, .ld1 (.tmp 229)⟩,
 ⟨some 231, none, .mov (.tmp 10)⟩,
 ⟨some 232, none, .iad 1 (.tmp 231) (.const (.int .i64 2))⟩,
 ⟨some 233, none, .ld1 (.tmp 232)⟩,
 ⟨some 234, none, .agg [(.int .i64 0), (.int .i64 0), (.bool false)] [(0, 1, (.tmp 230)), (1, 1, (.tmp 233)), (2, 1, (.const (.bool true)))]⟩,
 ⟨none, none, .st 3 (.tmp 6) (.tmp 234)⟩,
 ⟨some 7, none, .mov (.const (.bool true))⟩] [(0, 3), (1, 3), (2, 3), (0, 4), (1, 4), (2, 4), (0, 5), (1, 5), (2, 5)])
 .ret))))
 .skip)))))))))
 (.seq (.ops [⟨some 235, none, .agg [(.int .i64 0), (.int .i64 0), (.bool false)] []⟩,
 ⟨none, none, .st 3 (.tmp 6) (.tmp 235)⟩,
 ⟨some 7, none, .mov (.const (.bool false))⟩])
 .ret)))))⟩
theorem ok89 : compF Tryz.prog Tryz.f89 = some c89 := by kernel_rfl
def c90 : CF := ⟨58, [.cells 0 125],
 (.seq (.ops [⟨some 0, none, .newz [(.int .i64 0), (.int .i64 0), (.int .i64 0), (.int .i64 0), (.slice none 0 0), (.int .i64 0), (.int .i64 0), (.int .i64 0), (.int .i64 0), (.slice none 0 0), (.int .i64 0), (.int .i64 0), (.int .i64 0), (.int .i64 0), (.slice none 0 0), (.int .i64 0), (.int .i64 0), (.int .i64 0), (.int .i64 0), (.slice none 0 0), (.int .i64 0), (.int .i64 0), (.int .i64 0), (.int .i64 0), (.slice none 0 0), (.int .i64 0), (.int .i64 0), (.int .i64 0), (.int .i64 0), (.slice none 0 0), (.int .i64 0), (.int .i64 0), (.int .i64 0), (.int .i64 0), (.slice none 0 0), (.int .i64 0), (.int .i64 0), (.int .i64 0), (.int .i64 0), (.slice none 0 0), (.int .i64 0), (.int .i64 0), (.int .i64 0), (.int .i64 0), (.slice none 0 0), (.int .i64 0), (.int .i64 0), (.int .i64 0), (.int .i64 0), (.slice none 0 0), (.int .i64 0), (.int .i64 0), (.int .i64 0), (.int .i64 0), (.slice none 0 0), (.int .i64 0), (.int .i64 0), (.int .i64 0), (.int .i64 0), (.slice none 0 0), (.int .i64 0), (.int .i64 0), (.int .i64 0), (.int .i64 0), (.slice none 0 0), (.int .i64 0), (.int .i64 0), (.int .i64 0), (.int .i64 0), (.slice none 0 0), (.int .i64 0), (.int .i64 0), (.int .i64 0), (.int .i64 0), (.slice none 0 0), (.int .i64 0), (.int .i64 0), (.int .i64 0), (.int .i64 0), (.slice none 0 0), (.int .i64 0), (.int .i64 0), (.int .i64 0), (.int .i64 0), (.slice none 0 0), (.int .i64 0), (.int .i64 0), (.int .i64 0), (.int .i64 0), (.slice none 0 0), (.int .i64 0), (.int .i64 0), (.int .i64 0), (.int .i64 0), (.slice none 0 0), (.int .i64 0), (.int .i64 0), (.int .i64 0), (.int .i64 0), (.slice none 0 0), (.int .i64 0), (.int .i64 0), (.int .i64 0), (.int .i64 0), (.slice none 0 0), (.int .i64 0), (.int .i64 0), (.int .i64 0), (.int .i64 0), (.slice none 0 0), (.int .i64 0), (.int .i64 0), (.int .i64 0), (.int .i64 0), (.slice none 0 0), (.int .i64 0), (.int .i64 0), (.int .i64 0), (.int .i64 0), (.slice none 0 0), (.int .i64 0), (.int .i64 0), (.int .i64 0), (.int .i64 0), (.slice none 0 0)]⟩])
 (.seq (.ops [⟨some 4, none, .lits [(.int .i64 0), (.int .i64 0), (.int .i64 0)] 3 [(0, 1, (.const (.int .i64 0))), (1, 1, (.const (.int .i64 6))), (2, 1, (.const (.int .i64 5)))]⟩,
 ⟨some 5, none, .lits [(.int .i64 0), (.int .i64 0)] 2 [(0, 1, (.const (.int .i64 0))), (1, 1, (.const (.int .i64 6)))]⟩,
 ⟨some 6, none, .lits [(.int .i64 0), (.int .i64 0), (.int .i64 0), (.int .i64 0)] 4 [(0, 1, (.const (.int .i64 1))), (1, 1, (.const (.int .i64 0))), (2, 1, (.const (.int .i64 6))), (3, 1, (.const (.int .i64 5)))]⟩,
 ⟨some 1, none, .mov (.tmp 4)⟩,
 ⟨some 2, none, .mov (.tmp 5)⟩,
 ⟨some 3, none, .mov (.tmp 6)⟩])
 (.seq (.draw [⟨some 7, none, .mov (.tmp 3)⟩,
 ⟨some 8, none, .agg [(.int .i64 0), (.int .i64 0), (.int .i64 0), (.int .i64 0), (.slice none 0 0)] [(0, 1, (.const (.int .i64 0))), (1, 1, (.const (.int .i64 0))), (2, 1, (.const (.int .i64 0))), (3, 1, (.const (.int .i64 0))), (4, 1, (.tmp 7))]⟩,
 ⟨some 9, none, .mov (.tmp 3)⟩,
 ⟨some 10, none, .agg [(.int .i64 0), (.int .i64 0), (.int .i64 0), (.int .i64 0), (.slice none 0 0)] [(0, 1, (.const (.int .i64 0))), (1, 1, (.const (.int .i64 0))), (2, 1, (.const (.int .i64 0))), (3, 1, (.const (.int .i64 0))), (4, 1, (.tmp 9))]⟩,
 ⟨some 11, none, .mov (.tmp 1)⟩,
 ⟨some 12, none, .agg [(.int .i64 0), (.int .i64 0), (.int .i64 0), (.int .i64 0), (.slice none 0 0)] [(0, 1, (.const (.int .i64 1))), (1, 1, (.const (.int .i64 1))), (2, 1, (.const (.int .i64 1))), (3, 1, (.const (.int .i64 1))), (4, 1, (.tmp 11))]⟩,
 ⟨some 13, none, .mov (.tmp 3)⟩,
 ⟨some 14, none, .sl 1 (.tmp 13) none (some (.const (.int .i64 1))) none⟩,
 ⟨some 15, none, .agg [(.int .i64 0), (.int .i64 0), (.int .i64 0), (.int .i64 0), (.slice none 0 0)] [(0, 1, (.const (.int .i64 0))), (1, 1, (.const (.int .i64 0))), (2, 1, (.const (.int .i64 0))), (3, 1, (.const (.int .i64 0))), (4, 1, (.tmp 14))]⟩,
 ⟨some 16, none, .mov (.tmp 3)⟩,
 ⟨some 17, none, .sl 1 (.tmp 16) none (some (.const (.int .i64 1))) none⟩,
 ⟨some 18, none, .agg [(.int .i64 0), (.int .i64 0), (.int .i64 0), (.int .i64 0), (.slice none 0 0)] [(0, 1, (.const (.int .i64 0))), (1, 1, (.const (.int .i64 (-1)))), (2, 1, (.const (.int .i64 1))), (3, 1, (.const (.int .i64 1))), (4, 1, (.tmp 17))]⟩,
 ⟨some 19, none, .mov (.tmp 2)⟩,
 ⟨some 20, none, .agg [(.int .i64 0), (.int .i64 0), (.int .i64 0), (.int .i64 0), (.slice none 0 0)] [(0, 1, (.const (.int .i64 0))), (1, 1, (.const (.int .i64 0))), (2, 1, (.const (.int .i64 0))), (3, 1, (.const (.int .i64 0))), (4, 1, (.tmp 19))]⟩,
 ⟨some 21, none, .lits [(.int .i64 0)] 1 [(0, 1, (.const (.int .i64 2)))]⟩,
 ⟨some 22, none, .agg [(.int .i64 0), (.int .i64 0), (.int .i64 0), (.int .i64 0), (.slice none 0 0)] [(0, 1, (.const (.int .i64 0))), (1, 1, (.const (.int .i64 0))), (2, 1, (.const (.int .i64 0))), (3, 1, (.const (.int .i64 0))), (4, 1, (.tmp 21))]⟩,
 ⟨some 23, none, .mov (.tmp 1)⟩,
 ⟨some 24, none, .agg [(.int .i64 0), (.int .i64 0), (.int .i64 0), (.int .i64 0), (.slice none 0 0)] [(0, 1, (.const (.int .i64 0))), (1, 1, (.const (.int .i64 0))), (2, 1, (.const (.int .i64 0))), (3, 1, (.const (.int .i64 0))), (4, 1, (.tmp 23))]⟩,
 ⟨some 25, none, .mov (.tmp 1)⟩,
 ⟨some 26, none, .agg [(.int .i64 0), (.int .i64 0), (.int .i64 0), (.int .i64 0), (.slice none 0 0)] [(0, 1, (.const (.int .i64 1))), (1, 1, (.const (.int .i64 (-1)))), (2, 1, (.const (.int .i64 2))), (3, 1, (.const (.int .i64 0))), (4, 1, (.tmp 25))]⟩,
 ⟨some 27, none, .mov (.tmp 2)⟩,
 ⟨some 28, none, .agg [(.int .i64 0), (.int .i64 0), (.int .i64 0), (.int .i64 0), (.slice none 0 0)] [(0, 1, (.const (.int .i64 1))), (1, 1, (.const (.int .i64 (-1)))), (2, 1, (.const (.int .i64 0))), (3, 1, (.const (.int .i64 0))), (4, 1, (.tmp 27))]⟩,
 ⟨some 29, none, .mov (.tmp 2)⟩,
 ⟨some 30, none, .agg [(.int .i64 0), (.int .i64 0), (.int .i64 0), (.int .i64 0), (.slice none 0 0)] [(0, 1, (.const (.int .i64 3))), (1, 1, (.const (.int .i64 3))), (2, 1, (.const (.int .i64 0))), (3, 1, (.const (.int .i64 0))), (4, 1, (.tmp 29))]⟩,
 ⟨some 31, none, .mov (.tmp 2)⟩,
 ⟨some 32, none, .agg [(.int .i64 0), (.int .i64 0), (.int .i64 0), (.int .i64 0), (.slice none 0 0)] [(0, 1, (.const (.int .i64 1))), (1, 1, (.const (.int .i64 (-1)))), (2, 1, (.const (.int .i64 2))), (3, 1, (.const (.int .i64 0))), (4, 1, (.tmp 31))]⟩,
 ⟨some 33, none, .mov (.tmp 2)⟩,
 ⟨some 34, none, .agg [(.int .i64 0), (.int .i64 0), (.int .i64 0), (.int .i64 0), (.slice none 0 0)] [(0, 1, (.const (.int .i64 1))), (1, 1, (.const (.int .i64 (-1)))), (2, 1, (.const (.int .i64 2))), (3, 1, (.const (.int .i64 0))), (4, 1, (.tmp 33))]⟩,
 ⟨some 35, none, .mov (.tmp 2)⟩,
 ⟨some 36, none, .agg [(.int .i64 0), (.int .i64 0), (.int .i64 0), (.int .i64 0), (.slice none 0 0)] [(0, 1, (.const (.int .i64 1))), (1, 1, (.const (.int .i64 (-1)))), (2, 1, (.const (.int .i64 2))), (3, 1, (.const (.int .i64 0))), (4, 1, (.tmp 35))]⟩,
 ⟨some 37, none, .mov (.tmp 2)⟩,
 ⟨some 38, none, .agg [(.int .i64 0), (.int .i64 0), (.int .i64 0), (.int .i64 0), (.slice none 0 0)] [(0, 1, (.const (.int .i64 1))), (1, 1, (.const (.int .i64 (-1)))), (2, 1, (.const (.int .i64 3))), (3, 1, (.const (.int .i64 4))), (4, 1, (.tmp 37))]⟩,
 ⟨some 39, none, .lits [(.int .i64 0)] 1 [(0, 1, (.const (.int .i64 3)))]⟩,
 ⟨some 40, none, .agg [(.int .i64 0), (.int .i64 0), (.int .i64 0), (.int .i64 0), (.slice none 0 0)] [(0, 1, (.const (.int .i64 2))), (1, 1, (.const (.int .i64 2))), (2, 1, (.const (.int .i64 0))), (3, 1, (.const (.int .i64 0))), (4, 1, (.tmp 39))]⟩,
 ⟨some 41, none, .lits [(.int .i64 0)] 1 [(0, 1, (.const (.int .i64 4)))]⟩,
 ⟨some 42, none, .agg [(.int .i64 0), (.int .i64 0), (.int .i64 0), (.int .i64 0), (.slice none 0 0)] [(0, 1, (.const (.int .i64 1))), (1, 1, (.const (.int .i64 1))), (2, 1, (.const (.int .i64 0))), (3, 1, (.const (.int .i64 0))), (4, 1, (.tmp 41))]⟩,
 ⟨some 43, none, .mov (.tmp 2)⟩,
 ⟨some 44, none, .agg [(.int .i64 0), (.int .i64 0), (.int .i64 0), (.int .i64 0), (.slice none 0 0)] [(0, 1, (.const (.int .i64 0))), (1, 1, (.const (.int .i64 (-1)))), (2, 1, (.const (.int .i64 0))), (3, 1, (.const (.int .i64 0))), (4, 1, (.tmp 43))]⟩,
 ⟨some 45, none, .mov (.tmp 2)⟩,
 ⟨some 46, none, .agg [(.int .i64 0), (.int .i64 0), (.int .i64 0), (.int .i64 0), (.slice none 0 0)] [(0, 1, (.const (.int .i64 0))), (1, 1, (.const (.int .i64 (-1)))), (2, 1, (.const (.int .i64 0))), (3, 1, (.const (.int .i64 0))), (4, 1, (.tmp 45))]⟩,
 ⟨some 47, none, .mov (.tmp 2)⟩,
 ⟨some 48, none, .agg [(.int .i64 0), (.int .i64 0), (.int .i64 0), (.int .i64 0), (.slice none 0 0)] [(0, 1, (.const (.int .i64 2))), (1, 1, (.const (.int .i64 2))), (2, 1, (.const (.int .i64 0))), (3, 1, (.const (.int .i64 0))), (4, 1, (.tmp 47))]⟩,
 ⟨some 49, none, .mov (.tmp 2)⟩,
 ⟨some 50, none, .agg [(.int .i64 0), (.int .i64 0), (.int .i64 0), (.int .i64 0), (.slice none 0 0)] [(0, 1, (.const (.int .i64 2))), (1, 1, (.const (.int .i64 2))), (2, 1, (.const (.int .i64 0))), (3, 1, (.const (.int .i64 0))), (4, 1, (.tmp 49))]⟩,
 ⟨some 51, none, .mov (.tmp 2)⟩,
 ⟨some 52, none, .agg [(.int .i64 0), (.int .i64 0), (.int .i64 0), (.int .i64 0), (.slice none 0 0)] [(0, 1, (.const (.int .i64 1))), (1, 1, (.const (.int .i64 (-1)))), (2, 1, (.const (.int .i64 0))), (3, 1, (.const (.int .i64 0))), (4, 1, (.tmp 51))]⟩,
 ⟨some 53, none, .mov (.tmp 2)⟩,
 ⟨some 54, none, .agg [(.int .i64 0), (.int .i64 0), (.int .i64 0), (.int .i64 0), (.slice none 0 0)] [(0, 1, (.const (.int .i64 0))), (1, 1, (.const (.int .i64 (-1)))), (2, 1, (.const (.int .i64 0))), (3, 1, (.const (.int .i64 0))), (4, 1, (.tmp 53))]⟩,
 ⟨some 55, none, .mov (.tmp 1)⟩,
 ⟨some 56, none, .agg [(.int .i64 0), (.int .i64 0), (.int .i64 0), (.int .i64 0), (.slice none 0 0)] [(0, 1, (.const (.int .i64 2))), (1, 1, (.const (.int .i64 2))), (2, 1, (.const (.int .i64 5))), (3, 1, (.const (.int .i64 5))), (4, 1, (.tmp 55))]⟩,
 ⟨some 57, none, .agg [(.int .i64 0), (.int .i64 0), (.int .i64 0), (.int .i64 0), (.slice none 0 0), (.int .i64 0), (.int .i64 0), (.int .i64 0), (.int .i64 0), (.slice none 0 0), (.int .i64 0), (.int .i64 0), (.int .i64 0), (.int .i64 0), (.slice none 0 0), (.int .i64 0), (.int .i64 0), (.int .i64 0), (.int .i64 0), (.slice none 0 0), (.int .i64 0), (.int .i64 0), (.int .i64 0), (.int .i64 0), (.slice none 0 0), (.int .i64 0), (.int .i64 0), (.int .i64 0), (.int .i64 0), (.slice none 0 0), (.int .i64 0), (.int .i64 0), (.int .i64 0), (.int .i64 0), (.slice none 0 0), (.int .i64 0), (.int .i64 0), (.int .i64 0), (.int .i64 0), (.slice none 0 0), (.int .i64 0), (.int .i64 0), (.int .i64 0), (.int .i64 0), (.slice none 0 0), (.int .i64 0), (.int .i64 0), (.int .i64 0), (.int .i64 0), (.slice none 0 0), (.int .i64 0), (.int .i64 0), (.int .i64 0), (.int .i64 0), (.slice none 0 0), (.int .i64 0), (.int .i64 0), (.int .i64 0), (.int .i64 0), (.slice none 0 0), (.int .i64 0), (.int .i64 0), (.int .i64 0), (.int .i64 0), (.slice none 0 0), (.int .i64 0), (.int .i64 0), (.int .i64 0), (.int .i64 0), (.slice none 0 0), (.int .i64 0), (.int .i64 0), (.int .i64 0), (.int .i64 0), (.slice none 0 0), (.int .i64 0), (.int .i64 0), (.int .i64 0), (.int .i64 0), (.slice none 0 0), (.int .i64 0), (.int .i64 0), (.int .i64 0), (.int .i64 0), (.slice none 0 0), (.int .i64 0), (.int .i64 0), (.int .i64 0), (.int .i64 0), (.slice none 0 0), (.int .i64 0), (.int .i64 0), (.int .i64 0), (.int .i64 0), (.slice none 0 0), (.int .i64 0), (.int .i64 0), (.int .i64 0), (.int .i64 0), (.slice none 0 0), (.int .i64 0), (.int .i64 0), (.int .i64 0), (.int .i64 0), (.slice none 0 0), (.int .i64 0), (.int .i64 0), (.int .i64 0), (.int .i64 0), (.slice none 0 0), (.int .i64 0), (.int .i64 0), (.int .i64 0), (.int .i64 0), (.slice none 0 0), (.int .i64 0), (.int .i64 0), (.int .i64 0), (.int .i64 0), (.slice none 0 0), (.int .i64 0), (.int .i64 0), (.int .i64 0), (.int .i64 0), (.slice none 0 0)] [(5, 5, (.tmp 8)), (10, 5, (.tmp 10)), (15, 5, (.tmp 12)), (20, 5, (.tmp 15)), (25, 5, (.tmp 18)), (30, 5, (.tmp 20)), (45, 5, (.tmp 22)), (35, 5, (.tmp 24)), (40, 5, (.tmp 26)), (50, 5, (.tmp 28)), (55, 5, (.tmp 30)), (60, 5, (.tmp 32)), (65, 5, (.tmp 34)), (70, 5, (.tmp 36)), (75, 5, (.tmp 38)), (80, 5, (.tmp 40)), (85, 5, (.tmp 42)), (90, 5, (.tmp 44)), (95, 5, (.tmp 46)), (100, 5, (.tmp 48)), (105, 5, (.tmp 50)), (110, 5, (.tmp 52)), (115, 5, (.tmp 54)), (120, 5, (.tmp 56))]⟩,
 ⟨none, none, .st 125 (.tmp 0) (.tmp 57)⟩] [(0, 2), (1, 2), (0, 3), (1, 3), (0, 4), (1, 4), (2, 4), (3, 4), (0, 5), (1, 5), (2, 5), (3, 5), (0, 6), (1, 6), (2, 6), (3, 6), (4, 6), (5, 6), (0, 7), (1, 7), (2, 7), (3, 7), (4, 7), (5, 7), (0, 8), (1, 8), (2, 8), (3, 8), (4, 8), (5, 8), (0, 9), (1, 9), (2, 9), (3, 9), (4, 9), (5, 9), (6, 9), (7, 9), (8, 9), (0, 10), (1, 10), (2, 10), (3, 10), (4, 10), (5, 10), (6, 10), (7, 10), (8, 10), (0, 11), (1, 11), (2, 11), (3, 11), (4, 11), (5, 11), (6, 11), (7, 11), (8, 11), (0, 12), (1, 12), (2, 12), (3, 12), (4, 12), (5, 12), (6, 12), (7, 12), (8, 12), (9, 12), (10, 12), (11, 12), (0, 13), (1, 13), (2, 13), (3, 13), (4, 13), (5, 13), (6, 13), (7, 13), (8, 13), (9, 13), (10, 13), (11, 13), (0, 14), (1, 14), (2, 14), (3, 14), (4, 14), (5, 14), (6, 14), (7, 14), (8, 14), (9, 14), (10, 14), (11, 14), (12, 14), (13, 14), (0, 15), (1, 15), (2, 15), (3, 15), (4, 15), (5, 15), (6, 15), (7, 15), (8, 15), (9, 15), (10, 15), (11, 15), (12, 15), (13, 15), (0, 16), (1, 16), (2, 16), (3, 16), (4, 16), (5, 16), (6, 16), (7, 16), (8, 16), (9, 16), (10, 16), (11, 16), (12, 16), (13, 16), (14, 16), (15, 16), (0, 17), (1, 17), (2, 17), (3, 17), (4, 17), (5, 17), (6, 17), (7, 17), (8, 17), (9, 17), (10, 17), (11, 17), (12, 17), (13, 17), (14, 17), (15, 17), (0, 18), (1, 18), (2, 18), (3, 18), (4, 18), (5, 18), (6, 18), (7, 18), (8, 18), (9, 18), (10, 18), (11, 18), (12, 18), (13, 18), (14, 18), (15, 18), (16, 18), (17, 18), (0, 19), (1, 19), (2, 19), (3, 19), (4, 19), (5, 19), (6, 19), (7, 19), (8, 19), (9, 19), (10, 19), (11, 19), (12, 19), (13, 19), (14, 19), (15, 19), (16, 19), (17, 19), (0, 20), (1, 20), (2, 20), (3, 20), (4, 20), (5, 20), (6, 20), (7, 20), (8, 20), (9, 20), (10, 20), (11, 20), (12, 20), (13, 20), (14, 20), (15, 20), (16, 20), (17, 20), (18, 20), (19, 20), (0, 21), (1, 21), (2, 21), (3, 21), (4, 21), (5, 21), (6, 21), (7, 21), (8, 21), (9, 21), (10, 21), (11, 21), (12, 21), (13, 21), (14, 21), (15, 21), (16, 21), (17, 21), (18, 21), (19, 21), (0, 22), (1, 22), (2, 22), (3, 22), (4, 22), (5, 22), (6, 22), (7, 22), (8, 22), (9, 22), (10, 22), (11, 22), (12, 22), (13, 22), (14, 22), (15, 22), (16, 22), (17, 22), (18, 22), (19, 22), (20, 22), (21, 22), (0, 23), (1, 23), (2, 23), (3, 23), (4, 23), (5, 23), (6, 23), (7, 23), (8, 23), (9, 23), (10, 23), (11, 23), (12, 23), (13, 23), (14, 23), (15, 23), (16, 23), (17, 23), (18, 23), (19, 23), (20, 23), (21, 23), (0, 24), (1, 24), (2, 24), (3, 24), (4, 24), (5, 24), (6, 24), (7, 24), (8, 24), (9, 24), (10, 24), (11, 24), (12, 24), (13, 24), (14, 24), (15, 24), (16, 24), (17, 24), (18, 24), (19, 24), (20, 24), (21, 24), (22, 24), (23, 24), (0, 25), (1, 25), (2, 25), (3, 25), (4, 25), (5, 25), (6, 25), (7, 25), (8, 25), (9, 25), (10, 25), (11, 25), (12, 25), (13, 25), (14, 25), (15, 25), (16, 25), (17, 25), (18, 25), (19, 25), (20, 25), (21, 25), (22, 25), (23, 25), (0, 26), (1, 26), (2, 26), (3, 26), (4, 26), (5, 26), (6, 26), (7, 26), (8, 26), (9, 26), (10, 26), (11, 26), (12, 26), (13, 26), (14, 26), (15, 26), (16, 26), (17, 26), (18, 26), (19, 26), (20, 26), (21, 26), (22, 26), (23, 26), (24, 26), (25, 26), (0, 27), (1, 27), (2, 27), (3, 27), (4, 27), (5, 27), (6, 27), (7, 27), (8, 27), (9, 27), (10, 27), (11, 27), (12, 27), (13, 27), (14, 27), (15, 27), (16, 27), (17, 27), (18, 27), (19, 27), (20, 27), (21, 27), (22, 27), (23, 27), (24, 27), (25, 27), (0, 28), (1, 28), (2, 28), (3, 28), (4, 28), (5, 28), (6, 28), (7, 28), (8, 28), (9, 28), (10, 28), (11, 28), (12, 28), (13, 28), (14, 28), (15, 28), (16, 28), (17, 28), (18, 28), (19, 28), (20, 28), (21, 28), (22, 28), (23, 28), (24, 28), (25, 28), (26, 28), (27, 28), (0, 29), (1, 29), (2, 29), (3, 29), (4, 29), (5, 29), (6, 29), (7, 29), (8, 29), (9, 29), (10, 29), (11, 29), (12, 29), (13, 29), (14, 29), (15, 29), (16, 29), (17, 29), (18, 29), (19, 29), (20, 29), (21, 29), (22, 29), (23, 29), (24, 29), (25, 29), (26, 29), (27, 29), (0, 30), (1, 30), (2, 30), (3, 30), (4, 30), (5, 30), (6, 30), (7, 30), (8, 30), (9, 30), (10, 30), (11, 30), (12, 30), (13, 30), (14, 30), (15, 30), (16, 30), (17, 30), (18, 30), (19, 30), (20, 30), (21, 30), (22, 30), (23, 30), (24, 30), (25, 30), (26, 30), (27, 30), (28, 30), (29, 30), (0, 31), (1, 31), (2, 31), (3, 31), (4, 31), (5, 31), (6, 31), (7, 31), (8, 31), (9, 31), (10, 31), (11, 31), (12, 31), (13, 31), (14, 31), (15, 31), (16, 31), (17, 31), (18, 31), (19, 31), (20, 31), (21, 31), (22, 31), (23, 31), (24, 31), (25, 31), (26, 31), (27, 31), (28, 31), (29, 31), (0, 32), (1, 32), (2, 32), (3, 32), (4, 32), (5, 32), (6, 32), (7, 32), (8, 32), (9, 32), (10, 32), (11, 32), (12, 32), (13, 32), (14, 32), (15, 32), (16, 32), (17, 32), (18, 32), (19, 32), (20, 32), (21, 32), (22, 32), (23, 32), (24, 32), (25, 32), (26, 32), (27, 32), (28, 32), (29, 32), (30, 32), (31, 32), (0, 33), (1, 33), (2, 33), (3, 33), (4, 33), (5, 33), (6, 33), (7, 33), (8, 33), (9, 33), (10, 33), (11, 33), (12, 33), (13, 33), (14, 33), (15, 33), (16, 33), (17, 33), (18, 33), (19, 33), (20, 33), (21, 33), (22, 33), (23, 33), (24, 33), (25, 33), (26, 33), (27, 33), (28, 33), (29, 33), (30, 33), (31, 33), (0, 34), (1, 34), (2, 34), (3, 34), (4, 34), (5, 34), (6, 34), (7, 34), (8, 34), (9, 34), (10, 34), (11, 34), (12, 34), (13, 34), (14, 34), (15, 34), (16, 34), (17, 34), (18, 34), (19, 34), (20, 34), (21, 34), (22, 34), (23, 34), (24, 34), (25, 34), (26, 34), (27, 34), (28, 34), (29, 34), (30, 34), (31, 34), (32, 34), (33, 34), (0, 35), (1, 35), (2, 35), (3, 35), (4, 35), (5, 35), (6, 35), (7, 35), (8, 35), (9, 35), (10, 35), (11, 35), (12, 35), (13, 35), (14, 35), (15, 35), (16, 35), (17, 35), (18, 35), (19, 35), (20, 35), (21, 35), (22, 35), (23, 35), (24, 35), (25, 35), (26, 35), (27, 35), (28, 35), (29, 35), (30, 35), (31, 35), (32, 35), (33, 35), (0, 36), (1, 36), (2, 36), (3, 36), (4, 36), (5, 36), (6, 36), (7, 36), (8, 36), (9, 36), (10, 36), (11, 36), (12, 36), (13, 36), (14, 36), (15, 36), (16, 36), (17, 36), (18, 36), (19, 36), (20, 36), (21, 36), (22, 36), (23, 36), (24, 36), (25, 36), (26, 36), (27, 36), (28, 36), (29, 36), (30, 36), (31, 36), (32, 36), (33, 36), (34, 36), (35, 36), (0, 37), (1, 37), (2, 37), (3, 37), (4, 37), (5, 37), (6, 37), (7, 37), (8, 37), (9, 37), (10, 37), (11, 37), (12, 37), (13, 37), (14, 37), (15, 37), (16, 37), (17, 37), (18, 37), (19, 37), (20, 37), (21, 37), (22, 37), (23, 37), (24, 37), (25, 37), (26, 37), (27, 37), (28, 37), (29, 37), (30, 37), (31, 37), (32, 37), (33, 37), (34, 37), (35, 37), (0, 38), (1, 38), (2, 38), (3, 38), (4, 38), (5, 38), (6, 38), (7, 38), (8, 38), (9, 38), (10, 38), (11, 38), (12, 38), (13, 38), (14, 38), (15, 38), (16, 38), (17, 38), (18, 38), (19, 38), (20, 38), (21, 38), (22, 38), (23, 38), (24, 38), (25, 38), (26, 38), (27, 38), (28, 38), (29, 38), (30, 38), (31, 38), (32, 38), (33, 38), (34, 38), (35, 38), (36, 38), (37, 38), (0, 39), (1, 39), (2, 39), (3, 39), (4, 39), (5, 39), (6, 39), (7, 39), (8, 39), (9, 39), (10, 39), (11, 39), (12, 39), (13, 39), (14, 39), (15, 39), (16, 39), (17, 39), (18, 39), (19, 39), (20, 39), (21, 39), (22, 39), (23, 39), (24, 39), (25, 39), (26, 39), (27, 39), (28, 39), (29, 39), (30, 39), (31, 39), (32, 39), (33, 39), (34, 39), (35, 39), (36, 39), (37, 39), (0, 40), (1, 40), (2, 40), (3, 40), (4, 40), (5, 40), (6, 40), (7, 40), (8, 40), (9, 40), (10, 40), (11, 40), (12, 40), (13, 40), (14, 40), (15, 40), (16, 40), (17, 40), (18, 40), (19, 40), (20, 40), (21, 40), (22, 40), (23, 40), (24, 40), (25, 40), (26, 40), (27, 40), (28, 40), (29, 40), (30, 40), (31, 40), (32, 40), (33, 40), (34, 40), (35, 40), (36, 40), (37, 40), (38, 40), (39, 40), (0, 41), (1, 41), (2, 41), (3, 41), (4, 41), (5, 41), (6, 41), (7, 41), (8, 41), (9, 41), (10, 41), (11, 41), (12, 41), (13, 41), (14, 41), (15, 41), (16, 41), (17, 41), (18, 41), (19, 41), (20, 41), (21, 41), (22, 41), (23, 41), (24, 41), (25, 41), (26, 41), (27, 41), (28, 41), (29, 41), (30, 41), (31, 41), (32, 41), (33, 41), (34, 41), (35, 41), (36, 41), (37, 41), (38, 41), (39, 41), (0, 42), (1, 42), (2, 42), (3, 42), (4, 42), (5, 42), (6, 42), (7, 42), (8, 42), (9, 42), (10, 42), (11, 42), (12, 42), (13, 42), (14, 42), (15, 42), (16, 42), (17, 42), (18, 42), (19, 42), (20, 42), (21, 42), (22, 42), (23, 42), (24, 42), (25, 42), (26, 42), (27, 42), (28, 42), (29, 42), (30, 42), (31, 42), (32, 42), (33, 42), (34, 42), (35, 42), (36, 42), (37, 42), (38, 42), (39, 42), (40, 42), (41, 42), (0, 43), (1, 43), (2, 43), (3, 43), (4, 43), (5, 43), (6, 43), (7, 43), (8, 43), (9, 43), (10, 43), (11, 43), (12, 43), (13, 43), (14, 43), (15, 43), (16, 43), (17, 43), (18, 43), (19, 43), (20, 43), (21, 43), (22, 43), (23, 43), (24, 43), (25, 43), (26, 43), (27, 43), (28, 43), (29, 43), (30, 43), (31, 43), (32, 43), (33, 43), (34, 43), (35, 43), (36, 43), (37, 43), (38, 43), (39, 43), (40, 43), (41, 43), (0, 44), (1, 44), (2, 44), (3, 44), (4, 44), (5, 44), (6, 44), (7, 44), (8, 44), (9, 44), (10, 44), (11, 44), (12, 44), (13, 44), (14, 44), (15, 44), (16, 44), (17, 44), (18, 44), (19, 44), (20, 44), (21, 44), (22, 44), (23, 44), (24, 44), (25, 44), (26, 44), (27, 44), (28, 44), (29, 44), (30, 44), (31, 44), (32, 44), (33, 44), (34, 44), (35, 44), (36, 44), (37, 44), (38, 44), (39, 44), (40, 44), (41, 44), (42, 44), (43, 44), (0, 45), (1, 45), (2, 45), (3, 45), (4, 45), (5, 45), (6, 45), (7, 45), (8, 45), (9, 45), (10, 45), (11, 45), (12, 45), (13, 45), (14, 45), (15, 45), (16, 45), (17, 45), (18, 45), (19, 45), (20, 45), (21, 45), (22, 45), (23, 45), (24, 45), (25, 45), (26, 45), (27, 45), (28, 45), (29, 45), (30, 45), (31, 45), (32, 45), (33, 45), (34, 45), (35, 45), (36, 45), (37, 45), (38, 45), (39, 45), (40, 45), (41, 45), (42, 45), (43, 45), (0, 46), (1, 46), (2, 46), (3, 46), (4, 46), (5, 46), (6, 46), (7, 46), (8, 46), (9, 46), (10, 46), (11, 46), (12, 46), (13, 46), (14, 46), (15, 46), (16, 46), (17, 46), (18, 46), (19, 46), (20, 46), (21, 46), (22, 46), (23, 46), (24, 46), (25, 46), (26, 46), (27, 46), (28, 46), (29, 46), (30, 46), (31, 46), (32, 46), (33, 46), (34, 46), (35, 46), (36, 46), (37, 46), (38, 46), (39, 46), (40, 46), (41, 46), (42, 46), (43, 46), (44, 46), (45, 46), (0, 47), (1, 47), (2, 47), (3, 47), (4, 47), (5, 47), (6, 47), (7, 47), (8, 47), (9, 47), (10, 47), (11, 47), (12, 47), (13, 47), (14, 47), (15, 47), (16, 47), (17, 47), (18, 47), (19, 47), (20, 47), (21, 47), (22, 47), (23, 47), (24, 47), (25, 47), (26, 47), (27, 47), (28, 47), (29, 47), (30, 47), (31, 47), (32, 47), (33, 47), (34, 47), (35, 47), (36, 47), (37, 47), (38, 47), (39, 47), (40, 47), (41, 47), (42, 47), (43, 47), (44, 47), (45, 47), (0, 48), (1, 48), (2, 48), (3, 48), (4, 48), (5, 48), (6, 48), (7, 48), (8, 48), (9, 48), (10, 48), (11, 48), (12, 48), (13, 48), (14, 48), (15, 48), (16, 48), (17, 48), (18, 48), (19, 48), (20, 48), (21, 48), (22, 48), (23, 48), (24, 48), (25, 48), (26, 48), (27, 48), (28, 48), (29, 48), (30, 48), (31, 48), (32, 48), (33, 48), (34, 48), (35, 48), (36, 48), (37, 48), (38, 48), (39, 48), (40, 48), (41, 48), (42, 48), (43, 48), (44, 48), (45, 48), (46, 48), (47, 48), (0, 49), (1, 49), (2, 49), (3, 49), (4, 49), (5, 49), (6, 49), (7, 49), (8, 49), (9, 49), (10, 49), (11, 49), (12, 49), (13, 49), (14, 49), (15, 49), (16, 49), (17, 49), (18, 49), (19, 49), (20, 49), (21, 49), (22, 49), (23, 49), (24, 49), (25, 49), (26, 49), (27, 49), (28, 49), (29, 49), (30, 49), (31, 49), (32, 49), (33, 49), (34, 49), (35, 49), (36, 49), (37, 49), (38, 49), (39, 49), (40, 49), (41, 49), (42, 49), (43, 49), (44, 49), (45, 49), (46, 49), (47, 49)])
 .ret)))⟩
theorem ok90 : compF Tryz.prog Tryz.f90 = some c90 := fcompF_ok (bs := [(2, [0, 1, 0, 4, 0, 16, 0, 64, 192, 0, 512, 1536, 0, 4096, 0, 16384, 0, 65536, 0, 262144, 0, 1048576, 0, 4194304, 0, 16777216, 0, 67108864, 0, 268435456, 0, 1073741824, 0, 4294967296, 0, 17179869184, 0, 68719476736, 0, 274877906944, 0, 1099511627776, 0, 4398046511104, 0, 17592186044416, 0, 70368744177664, 0, 281474976710656, 1125899906842623, 2251799813685247])]) (by kernel_rfl)
def c91 : CF := ⟨78, [.cells 2 3],
 (.seq (.ops [⟨some 2, none, .newz [(.int .i64 0), (.int .i64 0), (.int .i64 0)]⟩])
 (.seq (.ops [⟨some 5, none, .mov (.tmp 0)⟩,
 ⟨some 6, none, .nilck (.tmp 5)⟩,
 ⟨some 7, none, .fad (.tmp 6) 1⟩,
 ⟨some 8, none, .ld1 (.tmp 7)⟩,
 ⟨some 9, none, .lnl (.tmp 8)⟩,
 ⟨some 10, none, .bin .sub (.tmp 9) (.const (.int .i64 1))⟩,
 ⟨some 3, none, .mov (.tmp 10)⟩])
 (.seq (.seq (.ops [⟨some 11, none, .mov (.tmp 3)⟩,
 ⟨some 12, none, .bin .lss (.tmp 11) (.const (.int .i64 0))⟩])
 (.cond (.tmp 12)
 (.seq (.ops [⟨some 13, none, .agg [(.int .i64 0), (.int .i64 0), (.int .i64 0)] [(0, 1, (.const (.int .i64 (-1)))), (1, 1, (.const (.int .i64 0))), (2, 1, (.const (.int .i64 0)))]⟩,
 ⟨none, none, .st 3 (.tmp 2) (.tmp 13)⟩])
 .ret)
 .skip))
 (.seq (.seq (.ops [⟨some 14, none, .mov (.tmp 0)⟩,
 ⟨some 15, none, .nilck (.tmp 14)⟩,
 ⟨some 16, none, .fad (.tmp 15) 0⟩,
 ⟨some 17, none, .ld1 (.tmp 16)⟩,
 ⟨some 18, none, .mov (.tmp 3)⟩,
 ⟨some 19, none, .iad 7 (.tmp 17) (.tmp 18)⟩,
 ⟨some 20, none, .fad (.tmp 19) 1⟩,
 ⟨some 21, none, .ld1 (.tmp 20)⟩,
 ⟨some 22, none, .bin .gtr (.tmp 21) (.const (.int .i64 0))⟩])
 (.cond (.tmp 22)
 (.seq (.ops [⟨some 23, none, .mov (.tmp 3)⟩,
 ⟨some 24, none, .mov (.tmp 0)⟩,
 ⟨some 25, none, .nilck (.tmp 24)⟩,
 ⟨some 26, none, .fad (.tmp 25) 1⟩,
 ⟨some 27, none, .ld1 (.tmp 26)⟩,
 ⟨some 28, none, .mov (.tmp 3)⟩,
 ⟨some 29, none, .iad 3 (.tmp 27) (.tmp 28)⟩,
 ⟨some 30, none, .fad (.tmp 29) 2⟩,
 ⟨some 31, none, .ld1 (.tmp 30)⟩,
 ⟨some 32, none, .bin .add (.tmp 31) (.const (.int .i64 1))⟩,
 ⟨some 33, none, .agg [(.int .i64 0), (.int .i64 0), (.int .i64 0)] [(0, 1, (.tmp 23)), (1, 1, (.const (.int .i64 0))), (2, 1, (.tmp 32))]⟩,
 ⟨none, none, .st 3 (.tmp 2) (.tmp 33)⟩])
 .ret)
 .skip))
 (.seq (.block 0 (.loop (.seq (.seq (.ops [⟨some 34, none, .mov (.tmp 3)⟩,
 ⟨some 35, none, .bin .geq (.tmp 34) (.const (.int .i64 0))⟩])
 (.cond (.tmp 35)
 .skip
 (.exit 0)))
 (.seq (.block 1 (.seq (.ops [⟨some 44, none, .mov (.tmp 0)⟩,
 ⟨some 45, none, .nilck (.tmp 44)⟩,
 ⟨some 46, none, .fad (.tmp 45) 1⟩,
 ⟨some 47, none, .ld1 (.tmp 46)⟩,
 ⟨some 48, none, .mov (.tmp 3)⟩,
 ⟨some 49, none, .iad 3 (.tmp 47) (.tmp 48)⟩,
 ⟨some 50, none, .ld 3 (.tmp 49)⟩,
 ⟨some 4, none, .newz [(.int .i64 0), (.int .i64 0), (.int .i64 0)]⟩,
 ⟨none, none, .st 3 (.tmp 4) (.tmp 50)⟩])
 (.seq (.draw [⟨some 51, none, .fad (.tmp 4) 0⟩,
 ⟨some 52, none, .ld1 (.tmp 51)⟩,
 ⟨some 53, none, .bin .geq (.tmp 52) (.const (.int .i64 0))⟩,
 ⟨some 54, none, .mov (.tmp 53)⟩,
 ⟨some 55, (some (54, true)), .fad (.tmp 4) 1⟩,
 ⟨some 56, (some (54, true)), .ld1 (.tmp 55)⟩,
 ⟨some 57, (some (54, true)), .bin .add (.tmp 56) (.const (.int .i64 1))⟩,
 ⟨some 58, (some (54, true)), .mov (.tmp 0)⟩,
 ⟨some 59, (some (54, true)), .nilck (.tmp 58)⟩,
 ⟨some 60, (some (54, true)), .fad (.tmp 59) 0⟩,
 ⟨some 61, (some (54, true)), .ld1 (.tmp 60)⟩,
 ⟨some 62, (some (54, true)), .fad (.tmp 4) 0⟩,
 ⟨some 63, (some (54, true)), .ld1 (.tmp 62)⟩,
 ⟨some 64, (some (54, true)), .iad 7 (.tmp 61) (.tmp 63)⟩,
 ⟨some 65, (some (54, true)), .fad (.tmp 64) 1⟩,
 ⟨some 66, (some (54, true)), .ld1 (.tmp 65)⟩,
 ⟨some 67, (some (54, true)), .bin .lss (.tmp 57) (.tmp 66)⟩,
 ⟨some 68, none, .pick (.tmp 54) (.tmp 67) (.const (.bool false))⟩] [(4, 7), (5, 7), (6, 7), (4, 8), (5, 8), (6, 8), (4, 9), (5, 9), (6, 9), (4, 10), (5, 10), (6, 10), (4, 11), (5, 11), (6, 11), (7, 11), (8, 11), (9, 11), (10, 11), (4, 12), (5, 12), (6, 12), (7, 12), (8, 12), (9, 12), (10, 12), (4, 13), (5, 13), (6, 13), (4, 14), (5, 14), (6, 14), (4, 15), (5, 15), (6, 15)])
 (.cond (.tmp 68)
 (.seq (.ops [⟨some 69, none, .fad (.tmp 4) 0⟩,
 ⟨some 70, none, .ld1 (.tmp 69)⟩,
 ⟨some 71, none, .fad (.tmp 4) 1⟩,
 ⟨some 72, none, .ld1 (.tmp 71)⟩,
 ⟨some 73, none, .bin .add (.tmp 72) (.const (.int .i64 1))⟩,
 ⟨some 74, none, .fad (.tmp 4) 2⟩,
 ⟨some 75, none, .ld1 (.tmp 74)⟩,
 ⟨some 76, none, .agg [(.int .i64 0), (.int .i64 0), (.int .i64 0)] [(0, 1, (.tmp 70)), (1, 1, (.tmp 73)), (2, 1, (.tmp 75))]⟩,
 ⟨none, none, .st 3 (.tmp 2) (.tmp 76)⟩])
 .ret)
 .skip))))
 (.ops [⟨some 36, none, .mov (.tmp 0)⟩,
 ⟨some 37, none, .nilck (.tmp 36)⟩,
 ⟨some 38, none, .fad (.tmp 37) 1⟩,
 ⟨some 39, none, .ld1 (.tmp 38)⟩,
 ⟨some 40, none, .mov (.tmp 3)⟩,
 ⟨some 41, none, .iad 3 (.tmp 39) (.tmp 40)⟩,
 ⟨some 42, none, .fad (.tmp 41) 0⟩,
 ⟨some 43, none, .ld1 (.tmp 42)⟩,
 ⟨some 3, none, .mov (.tmp 43)⟩])))))
 (.seq (.ops [⟨some 77, none, .agg [(.int .i64 0), (.int .i64 0), (.int .i64 0)] [(0, 1, (.const (.int .i64 (-1)))), (1, 1, (.const (.int .i64 0))), (2, 1, (.const (.int .i64 (-1))))]⟩,
 ⟨none, none, .st 3 (.tmp 2) (.tmp 77)⟩])
 .ret))))))⟩
theorem ok91 : compF Tryz.prog Tryz.f91 = some c91 := by kernel_rfl
def c92 : CF := ⟨109, [.tmp 4],
 (.seq (.ops [⟨some 2, none, .box (.tmp 0)⟩,
 ⟨some 4, none, .mov (.const (.int .i64 0))⟩])
 (.seq (.ops [⟨some 6, none, .fad (.tmp 2) 0⟩,
 ⟨some 7, none, .ld1 (.tmp 6)⟩,
 ⟨some 8, none, .bin .eql (.tmp 7) (.const (.int .i64 1))⟩,
 ⟨some 9, none, .mov (.tmp 8)⟩,
 ⟨some 10, (some (9, false)), .fad (.tmp 2) 0⟩,
 ⟨some 11, (some (9, false)), .ld1 (.tmp 10)⟩,
 ⟨some 12, (some (9, false)), .bin .eql (.tmp 11) (.const (.int .i64 2))⟩,
 ⟨some 13, none, .pick (.tmp 9) (.const (.bool true)) (.tmp 12)⟩,
 ⟨some 14, none, .mov (.tmp 13)⟩,
 ⟨some 15, (some (14, false)), .fad (.tmp 2) 0⟩,
 ⟨some 16, (some (14, false)), .ld1 (.tmp 15)⟩,
 ⟨some 17, (some (14, false)), .bin .eql (.tmp 16) (.const (.int .i64 6))⟩,
 ⟨some 18, none, .pick (.tmp 14) (.const (.bool true)) (.tmp 17)⟩,
 ⟨some 19, none, .mov (.tmp 18)⟩,
 ⟨some 20, (some (19, false)), .fad (.tmp 2) 0⟩,
 ⟨some 21, (some (19, false)), .ld1 (.tmp 20)⟩,
 ⟨some 22, (some (19, false)), .bin .eql (.tmp 21) (.const (.int .i64 9))⟩,
 ⟨some 23, none, .pick (.tmp 19) (.const (.bool true)) (.tmp 22)⟩,
 ⟨some 5, none, .mov (.tmp 23)⟩])
 (.seq (.block 0 (.seq (.ops [⟨some 25, none, .fad (.tmp 2) 0⟩,
 ⟨some 26, none, .ld1 (.tmp 25)⟩,
 ⟨some 27, none, .bin .lss (.tmp 26) (.const (.int .i64 1))⟩,
 ⟨some 28, none, .mov (.tmp 27)⟩,
 ⟨some 29, (some (28, false)), .fad (.tmp 2) 0⟩,
 ⟨some 30, (some (28, false)), .ld1 (.tmp 29)⟩,
 ⟨some 31, (some (28, false)), .bin .gtr (.tmp 30) (.const (.int .i64 24))⟩,
 ⟨some 32, none, .pick (.tmp 28) (.const (.bool true)) (.tmp 31)⟩,
 ⟨some 33, none, .mov (.tmp 32)⟩,
 ⟨some 34, (some (33, false)), .fad (.tmp 2) 1⟩,
 ⟨some 35, (some (33, false)), .ld1 (.tmp 34)⟩,
 ⟨some 36, (some (33, false)), .bin .lss (.tmp 35) (.const (.int .i64 0))⟩,
 ⟨some 37, none, .pick (.tmp 33) (.const (.bool true)) (.tmp 36)⟩,
 ⟨some 38, none, .mov (.tmp 37)⟩,
 ⟨some 39, (some (38, false)), .mov (.tmp 5)⟩,
 ⟨some 40, (some (38, false)), .un .not (.tmp 39)⟩,
 ⟨some 41, (some (38, false)), .mov (.tmp 40)⟩,
 ⟨some 42, (some (41, true)), .fad (.tmp 2) 2⟩,
 ⟨some 43, (some (41, true)), .ld1 (.tmp 42)⟩,
 ⟨some 44, (some (41, true)), .bin .neq (.tmp 43) (.const (.int .i64 0))⟩,
 ⟨some 45, (some (38, false)), .pick (.tmp 41) (.tmp 44) (.const (.bool false))⟩,
 ⟨some 46, none, .pick (.tmp 38) (.const (.bool true)) (.tmp 45)⟩,
 ⟨some 47, none, .mov (.tmp 46)⟩,
 ⟨some 48, (some (47, false)), .fad (.tmp 2) 0⟩,
 ⟨some 49, (some (47, false)), .ld1 (.tmp 48)⟩,
 ⟨some 50, (some (47, false)), .call (.func 113) [(.tmp 49)]⟩,
 ⟨some 51, (some (47, false)), .un .not (.tmp 50)⟩,
 ⟨some 52, (some (47, false)), .mov (.tmp 51)⟩,
 ⟨some 53, (some (52, true)), .fad (.tmp 2) 3⟩,
 ⟨some 54, (some (52, true)), .ld1 (.tmp 53)⟩,
 ⟨some 55, (some (52, true)), .bin .neq (.tmp 54) (.const (.string ⟨#[]⟩))⟩,
 ⟨some 56, (some (47, false)), .pick (.tmp 52) (.tmp 55) (.const (.bool false))⟩,
 ⟨some 57, none, .pick (.tmp 47) (.const (.bool true)) (.tmp 56)⟩,
 ⟨some 24, none, .mov (.tmp 57)⟩])
 (.cond (.tmp 24)
 (.seq (.ops [⟨some 4, none, .mov (.const (.int .i64 6))⟩])
 .ret)
 (.seq (.ops [⟨some 59, none, .mov (.tmp 1)⟩,
 ⟨some 60, none, .bin .gtr (.tmp 59) (.const (.int .i64 200))⟩,
 ⟨some 58, none, .mov (.tmp 60)⟩])
 (.cond (.tmp 58)
 (.seq (.ops [⟨some 4, none, .mov (.const (.int .i64 3))⟩])
 .ret)
 (.seq (.ops [⟨some 62, none, .fad (.tmp 2) 0⟩,
 ⟨some 63, none, .ld1 (.tmp 62)⟩,
 ⟨some 64, none, .bin .neq (.tmp 63) (.const (.int .i64 1))⟩,
 ⟨some 65, none, .mov (.tmp 64)⟩,
 ⟨some 66, (some (65, true)), .fad (.tmp 2) 2⟩,
 ⟨some 67, (some (65, true)), .ld1 (.tmp 66)⟩,
 ⟨some 68, (some (65, true)), .bin .lss (.tmp 67) (.const (.int .i64 0))⟩,
 ⟨some 69, none, .pick (.tmp 65) (.tmp 68) (.const (.bool false))⟩,
 ⟨some 70, none, .mov (.tmp 69)⟩,
 ⟨some 71, (some (70, false)), .fad (.tmp 2) 0⟩,
 ⟨some 72, (some (70, false)), .ld1 (.tmp 71)⟩,
 ⟨some 73, (some (70, false)), .bin .eql (.tmp 72) (.const (.int .i64 2))⟩,
 ⟨some 74, (some (70, false)), .mov (.tmp 73)⟩,
 ⟨some 75, (some (74, true)), .fad (.tmp 2) 2⟩,
 ⟨some 76, (some (74, true)), .ld1 (.tmp 75)⟩,
 ⟨some 77, (some (74, true)), .bin .gtr (.tmp 76) (.const (.int .i64 1))⟩,
 ⟨some 78, (some (70, false)), .pick (.tmp 74) (.tmp 77) (.const (.bool false))⟩,
 ⟨some 79, none, .pick (.tmp 70) (.const (.bool true)) (.tmp 78)⟩,
 ⟨some 61, none, .mov (.tmp 79)⟩])
 (.cond (.tmp 61)
 (.seq (.ops [⟨some 4, none, .mov (.const (.int .i64 7))⟩])
 .ret)
 (.seq (.ops [⟨some 81, none, .fad (.tmp 2) 0⟩,
 ⟨some 82, none, .ld1 (.tmp 81)⟩,
 ⟨some 83, none, .call (.func 113) [(.tmp 82)]⟩,
 ⟨some 84, none, .mov (.tmp 83)⟩,
 ⟨some 85, (some (84, true)), .fad (.tmp 2) 3⟩,
 ⟨some 86, (some (84, true)), .ld1 (.tmp 85)⟩,
 ⟨some 87, (some (84, true)), .call (.func 46) [(.tmp 86)]⟩,
 ⟨some 88, (some (84, true)), .un .not (.tmp 87)⟩,
 ⟨some 89, none, .pick (.tmp 84) (.tmp 88) (.const (.bool false))⟩,
 ⟨some 90, none, .mov (.tmp 89)⟩,
 ⟨some 91, (some (90, false)), .fad (.tmp 2) 4⟩,
 ⟨some 92, (some (90, false)), .fad (.tmp 91) 0⟩,
 ⟨some 93, (some (90, false)), .ld1 (.tmp 92)⟩,
 ⟨some 94, (some (90, false)), .bin .lss (.tmp 93) (.const (.int .i64 0))⟩,
 ⟨some 95, none, .pick (.tmp 90) (.const (.bool true)) (.tmp 94)⟩,
 ⟨some 96, none, .mov (.tmp 95)⟩,
 ⟨some 97, (some (96, false)), .fad (.tmp 2) 4⟩,
 ⟨some 98, (some (96, false)), .fad (.tmp 97) 0⟩,
 ⟨some 99, (some (96, false)), .ld1 (.tmp 98)⟩,
 ⟨some 100, (some (96, false)), .fad (.tmp 2) 4⟩,
 ⟨some 101, (some (96, false)), .fad (.tmp 100) 1⟩,
 ⟨some 102, (some (96, false)), .ld1 (.tmp 101)⟩,
 ⟨some 103, (some (96, false)), .bin .gtr (.tmp 99) (.tmp 102)⟩,
 ⟨some 104, none, .pick (.tmp 96) (.const (.bool true)) (.tmp 103)⟩,
 ⟨some 80, none, .mov (.tmp 104)⟩])
 (.cond (.tmp 80)
 (.seq (.ops [⟨some 4, none, .mov (.const (.int .i64 6))⟩])
 .ret)
 (.seq (.ops [⟨some 106, none, .fad (.tmp 2) 6⟩,
 ⟨some 107, none, .ld1 (.tmp 106)⟩,
 ⟨some 108, none, .bin .lss (.tmp 107) (.const (.int .i64 0))⟩,
 ⟨some 105, none, .mov (.tmp 108)⟩])
 (.cond (.tmp 105)
 (.seq (.ops [⟨some 4, none, .mov (.const (.int .i64 7))⟩])
 .ret)
 .skip)))))))))))
 (.seq (.ops [⟨some 4, none, .mov (.const (.int .i64 0))⟩])
 .ret))))⟩
theorem ok92 : compF Tryz.prog Tryz.f92 = some c92 := by kernel_rfl
def c93 : CF := ⟨77, [.tmp 6],
 (.seq (.ops [⟨some 4, none, .box (.tmp 1)⟩,
 ⟨some 5, none, .box (.tmp 2)⟩,
 ⟨some 6, none, .mov (.const (.int .i64 0))⟩])
 (.seq (.draw [⟨some 10, none, .mov (.tmp 0)⟩,
 ⟨some 11, none, .fad (.tmp 4) 0⟩,
 ⟨some 12, none, .ld1 (.tmp 11)⟩,
 ⟨some 13, none, .nilck (.tmp 10)⟩,
 ⟨some 14, none, .fad (.tmp 13) 2⟩,
 ⟨some 15, none, .iaa 25 5 (.tmp 14) (.tmp 12)⟩,
 ⟨some 16, none, .ld 5 (.tmp 15)⟩,
 ⟨some 17, none, .mov (.tmp 0)⟩,
 ⟨some 18, none, .ld 3 (.tmp 5)⟩,
 ⟨some 19, none, .call (.func 114) [(.tmp 17), (.tmp 18)]⟩,
 ⟨some 7, none, .newz [(.int .i64 0), (.int .i64 0), (.int .i64 0), (.int .i64 0), (.slice none 0 0)]⟩,
 ⟨none, none, .st 5 (.tmp 7) (.tmp 16)⟩,
 ⟨some 8, none, .mov (.tmp 19)⟩] [(0, 1), (0, 2), (1, 3), (2, 3), (1, 4), (2, 4), (0, 7), (1, 7), (2, 7), (3, 7), (4, 7), (5, 7), (6, 7), (0, 8), (1, 8), (2, 8), (3, 8), (4, 8), (5, 8), (6, 8), (7, 8), (0, 9), (1, 9), (2, 9), (3, 9), (4, 9), (5, 9), (6, 9), (0, 10), (1, 10), (2, 10), (3, 10), (4, 10), (5, 10), (6, 10), (7, 10), (8, 10), (9, 10)])
 (.seq (.seq (.ops [⟨some 20, none, .fad (.tmp 4) 1⟩,
 ⟨some 21, none, .ld1 (.tmp 20)⟩,
 ⟨some 22, none, .fad (.tmp 7) 0⟩,
 ⟨some 23, none, .ld1 (.tmp 22)⟩,
 ⟨some 24, none, .bin .lss (.tmp 21) (.tmp 23)⟩,
 ⟨some 25, none, .mov (.tmp 24)⟩,
 ⟨some 26, (some (25, false)), .fad (.tmp 7) 1⟩,
 ⟨some 27, (some (25, false)), .ld1 (.tmp 26)⟩,
 ⟨some 28, (some (25, false)), .bin .geq (.tmp 27) (.const (.int .i64 0))⟩,
 ⟨some 29, (some (25, false)), .mov (.tmp 28)⟩,
 ⟨some 30, (some (29, true)), .fad (.tmp 4) 1⟩,
 ⟨some 31, (some (29, true)), .ld1 (.tmp 30)⟩,
 ⟨some 32, (some (29, true)), .fad (.tmp 7) 1⟩,
 ⟨some 33, (some (29, true)), .ld1 (.tmp 32)⟩,
 ⟨some 34, (some (29, true)), .bin .gtr (.tmp 31) (.tmp 33)⟩,
 ⟨some 35, (some (25, false)), .pick (.tmp 29) (.tmp 34) (.const (.bool false))⟩,
 ⟨some 36, none, .pick (.tmp 25) (.const (.bool true)) (.tmp 35)⟩,
 ⟨some 37, none, .mov (.tmp 36)⟩,
 ⟨some 38, (some (37, false)), .fad (.tmp 4) 0⟩,
 ⟨some 39, (some (37, false)), .ld1 (.tmp 38)⟩,
 ⟨some 40, (some (37, false)), .call (.func 115) [(.tmp 39)]⟩,
 ⟨some 41, (some (37, false)), .mov (.tmp 40)⟩,
 ⟨some 42, (some (41, true)), .fad (.tmp 4) 1⟩,
 ⟨some 43, (some (41, true)), .ld1 (.tmp 42)⟩,
 ⟨some 44, (some (41, true)), .bin .rem (.tmp 43) (.const (.int .i64 2))⟩,
 ⟨some 45, (some (41, true)), .bin .eql (.tmp 44) (.const (.int .i64 0))⟩,
 ⟨some 46, (some (37, false)), .pick (.tmp 41) (.tmp 45) (.const (.bool false))⟩,
 ⟨some 47, none, .pick (.tmp 37) (.const (.bool true)) (.tmp 46)⟩,
 ⟨some 48, none, .mov (.tmp 47)⟩,
 ⟨some 49, (some (48, false)), .fad (.tmp 7) 4⟩,
 ⟨some 50, (some (48, false)), .ld1 (.tmp 49)⟩,
 ⟨some 51, (some (48, false)), .mov (.tmp 8)⟩,
 ⟨some 52, (some (48, false)), .call (.func 116) [(.tmp 50), (.tmp 51)]⟩,
 ⟨some 53, (some (48, false)), .un .not (.tmp 52)⟩,
 ⟨some 54, none, .pick (.tmp 48) (.const (.bool true)) (.tmp 53)⟩])
 (.cond (.tmp 54)
 (.seq (.ops [⟨some 6, none, .mov (.const (.int .i64 6))⟩])
 .ret)
 .skip))
 (.seq (.ops [⟨some 9, none, .mov (.const (.int .i64 0))⟩])
 (.seq (.seq (.ops [⟨some 55, none, .fad (.tmp 4) 0⟩,
 ⟨some 56, none, .ld1 (.tmp 55)⟩])
 (.block 0 (.seq (.ops [⟨some 58, none, .bin .eql (.tmp 56) (.const (.int .i64 8))⟩,
 ⟨some 57, none, .mov (.tmp 58)⟩])
 (.cond (.tmp 57)
 (.ops [⟨some 59, none, .fad (.tmp 4) 1⟩,
 ⟨some 60, none, .ld1 (.tmp 59)⟩,
 ⟨some 61, none, .bin .sub (.tmp 60) (.const (.int .i64 1))⟩,
 ⟨some 9, none, .mov (.tmp 61)⟩])
 (.seq (.seq (.ops [⟨some 63, none, .bin .eql (.tmp 56) (.const (.int .i64 12))⟩,
 ⟨some 62, none, .mov (.tmp 63)⟩])
 (.cond (.tmp 62)
 .skip
 (.ops [⟨some 64, none, .bin .eql (.tmp 56) (.const (.int .i64 14))⟩,
 ⟨some 62, none, .mov (.tmp 64)⟩])))
 (.cond (.tmp 62)
 (.ops [⟨some 65, none, .fad (.tmp 4) 1⟩,
 ⟨some 66, none, .ld1 (.tmp 65)⟩,
 ⟨some 67, none, .bin .quo (.tmp 66) (.const (.int .i64 2))⟩,
 ⟨some 9, none, .mov (.tmp 67)⟩])
 .skip))))))
 (.seq (.seq (.ops [⟨some 68, none, .mov (.tmp 9)⟩,
 ⟨some 69, none, .bin .gtr (.tmp 68) (.const (.int .i64 8))⟩])
 (.cond (.tmp 69)
 (.seq (.ops [⟨some 6, none, .mov (.const (.int .i64 3))⟩])
 .ret)
 .skip))
 (.seq (.seq (.ops [⟨some 70, none, .mov (.tmp 8)⟩,
 ⟨some 71, none, .bin .eql (.tmp 70) (.const (.int .i64 6))⟩,
 ⟨some 72, none, .mov (.tmp 71)⟩,
 ⟨some 73, (some (72, true)), .fad (.tmp 4) 0⟩,
 ⟨some 74, (some (72, true)), .ld1 (.tmp 73)⟩,
 ⟨some 75, (some (72, true)), .bin .neq (.tmp 74) (.const (.int .i64 8))⟩,
 ⟨some 76, none, .pick (.tmp 72) (.tmp 75) (.const (.bool false))⟩])
 (.cond (.tmp 76)
 (.seq (.ops [⟨some 6, none, .mov (.const (.int .i64 16))⟩])
 .ret)
 .skip))
 (.seq (.ops [⟨some 6, none, .mov (.const (.int .i64 0))⟩])
 .ret))))))))⟩
theorem ok93 : compF Tryz.prog Tryz.f93 = some c93 := by kernel_rfl
def c94 : CF := ⟨99, [.tmp 2, .tmp 3, .tmp 4],
 (.seq (.ops [⟨some 2, none, .mov (.const (.pointer none))⟩,
 ⟨some 3, none, .mov (.const (.int .i64 0))⟩,
 ⟨some 4, none, .mov (.const (.int .i64 0))⟩])
 (.seq (.ops [⟨some 14, none, .mov (.tmp 0)⟩,
 ⟨some 15, none, .nilck (.tmp 14)⟩,
 ⟨some 16, none, .fad (.tmp 15) 0⟩,
 ⟨some 17, none, .ld1 (.tmp 16)⟩,
 ⟨some 18, none, .lnl (.tmp 17)⟩,
 ⟨some 5, none, .mov (.tmp 18)⟩])
 (.seq (.seq (.ops [⟨some 19, none, .mov (.tmp 0)⟩,
 ⟨some 20, none, .nilck (.tmp 19)⟩,
 ⟨some 21, none, .fad (.tmp 20) 0⟩,
 ⟨some 22, none, .ld1 (.tmp 21)⟩,
 ⟨some 23, none, .lnl (.tmp 22)⟩,
 ⟨some 24, none, .mov (.const (.int .i64 0))⟩])
 (.block 0 (.loop (.seq (.ops [⟨some 25, none, .bin .lss (.tmp 24) (.tmp 23)⟩])
 (.seq (.cond (.tmp 25)
 .skip
 (.exit 0))
 (.seq (.block 1 (.seq (.ops [⟨some 26, none, .mov (.tmp 24)⟩,
 ⟨some 27, none, .iad 7 (.tmp 22) (.tmp 24)⟩,
 ⟨some 28, none, .ld 7 (.tmp 27)⟩,
 ⟨some 7, none, .newz [(.int .i64 0), (.int .i64 0), (.int .i64 0), (.string ⟨#[]⟩), (.int .i64 0), (.int .i64 0), (.int .i64 0)]⟩,
 ⟨some 6, none, .mov (.tmp 26)⟩,
 ⟨none, none, .st 7 (.tmp 7) (.tmp 28)⟩])
 (.seq (.seq (.ops [⟨some 29, none, .fad (.tmp 7) 0⟩,
 ⟨some 30, none, .ld1 (.tmp 29)⟩,
 ⟨some 31, none, .bin .neq (.tmp 30) (.const (.int .i64 9))⟩])
 (.cond (.tmp 31)
 (.exit 1)
 .skip))
 (.seq (.seq (.draw [⟨some 33, none, .mov (.tmp 0)⟩,
 ⟨some 34, none, .nilck (.tmp 33)⟩,
 ⟨some 35, none, .fad (.tmp 34) 127⟩,
 ⟨some 36, none, .ld1 (.tmp 35)⟩,
 ⟨some 37, none, .fad (.tmp 7) 2⟩,
 ⟨some 38, none, .ld1 (.tmp 37)⟩,
 ⟨some 39, none, .lkp (.int .i64) (.int .i64 0) (.tmp 36) (.tmp 38) true⟩,
 ⟨some 32, none, .mov (.tmp 39)⟩,
 ⟨some 40, none, .ext (.tmp 32) 0⟩,
 ⟨some 41, none, .ext (.tmp 32) 1⟩,
 ⟨some 8, none, .mov (.tmp 40)⟩,
 ⟨some 9, none, .mov (.tmp 41)⟩] [(0, 4), (1, 4), (2, 4), (3, 4), (0, 5), (1, 5), (2, 5), (3, 5), (8, 9), (9, 10)])
 (.seq (.ops [⟨some 42, none, .mov (.tmp 9)⟩])
 (.cond (.tmp 42)
 (.seq (.ops [⟨some 43, none, .mov (.tmp 5)⟩,
 ⟨some 44, none, .mov (.tmp 6)⟩,
 ⟨some 45, none, .mnx false [(.tmp 43), (.tmp 44)]⟩,
 ⟨some 5, none, .mov (.tmp 45)⟩])
 (.exit 1))
 .skip)))
 (.draw [⟨some 46, none, .mov (.tmp 0)⟩,
 ⟨some 47, none, .nilck (.tmp 46)⟩,
 ⟨some 48, none, .fad (.tmp 47) 127⟩,
 ⟨some 49, none, .ld1 (.tmp 48)⟩,
 ⟨some 50, none, .fad (.tmp 7) 2⟩,
 ⟨some 51, none, .ld1 (.tmp 50)⟩,
 ⟨some 52, none, .mov (.tmp 6)⟩,
 ⟨none, none, .mup (.int .i64) (.tmp 49) (.tmp 51) (.tmp 52)⟩] [(0, 4), (1, 4), (2, 4), (3, 4), (0, 5), (1, 5), (2, 5), (3, 5), (0, 6), (1, 6), (2, 6), (3, 6), (4, 6), (5, 6)])))))
 (.ops [⟨some 53, none, .bin .add (.tmp 24) (.const (.int .i64 1))⟩,
 ⟨some 24, none, .mov (.tmp 53)⟩])))))))
 (.seq (.seq (.ops [⟨some 54, none, .mov (.tmp 0)⟩,
 ⟨some 55, none, .nilck (.tmp 54)⟩,
 ⟨some 56, none, .fad (.tmp 55) 0⟩,
 ⟨some 57, none, .ld1 (.tmp 56)⟩,
 ⟨some 58, none, .lnl (.tmp 57)⟩,
 ⟨some 59, none, .mov (.const (.int .i64 0))⟩])
 (.block 2 (.loop (.seq (.ops [⟨some 60, none, .bin .lss (.tmp 59) (.tmp 58)⟩])
 (.seq (.cond (.tmp 60)
 .skip
 (.exit 2))
 (.seq (.block 3 (.seq (.ops [⟨some 61, none, .mov (.tmp 59)⟩,
 ⟨some 62, none, .iad 7 (.tmp 57) (.tmp 59)⟩,
 ⟨some 63, none, .ld 7 (.tmp 62)⟩,
 ⟨some 11, none, .newz [(.int .i64 0), (.int .i64 0), (.int .i64 0), (.string ⟨#[]⟩), (.int .i64 0), (.int .i64 0), (.int .i64 0)]⟩,
 ⟨some 10, none, .mov (.tmp 61)⟩,
 ⟨none, none, .st 7 (.tmp 11) (.tmp 63)⟩])
 (.seq (.seq (.ops [⟨some 64, none, .mov (.tmp 10)⟩,
 ⟨some 65, none, .mov (.tmp 5)⟩,
 ⟨some 66, none, .bin .eql (.tmp 64) (.tmp 65)⟩])
 (.cond (.tmp 66)
 (.seq (.ops [⟨some 67, none, .mov (.tmp 10)⟩,
 ⟨some 2, none, .mov (.const (.pointer none))⟩,
 ⟨some 3, none, .mov (.tmp 67)⟩,
 ⟨some 4, none, .mov (.const (.int .i64 8))⟩])
 .ret)
 .skip))
 (.seq (.seq (.ops [⟨some 68, none, .fad (.tmp 11) 0⟩,
 ⟨some 69, none, .ld1 (.tmp 68)⟩,
 ⟨some 70, none, .bin .neq (.tmp 69) (.const (.int .i64 6))⟩])
 (.cond (.tmp 70)
 (.exit 3)
 .skip))
 (.seq (.draw [⟨some 72, none, .mov (.tmp 0)⟩,
 ⟨some 73, none, .nilck (.tmp 72)⟩,
 ⟨some 74, none, .fad (.tmp 73) 127⟩,
 ⟨some 75, none, .ld1 (.tmp 74)⟩,
 ⟨some 76, none, .fad (.tmp 11) 2⟩,
 ⟨some 77, none, .ld1 (.tmp 76)⟩,
 ⟨some 78, none, .lkp (.int .i64) (.int .i64 0) (.tmp 75) (.tmp 77) true⟩,
 ⟨some 71, none, .mov (.tmp 78)⟩,
 ⟨some 79, none, .ext (.tmp 71) 0⟩,
 ⟨some 80, none, .ext (.tmp 71) 1⟩,
 ⟨some 12, none, .mov (.tmp 79)⟩,
 ⟨some 13, none, .mov (.tmp 80)⟩] [(0, 4), (1, 4), (2, 4), (3, 4), (0, 5), (1, 5), (2, 5), (3, 5), (8, 9), (9, 10)])
 (.seq (.seq (.ops [⟨some 81, none, .mov (.tmp 13)⟩,
 ⟨some 82, none, .un .not (.tmp 81)⟩])
 (.cond (.tmp 82)
 (.seq (.ops [⟨some 83, none, .mov (.tmp 10)⟩,
 ⟨some 2, none, .mov (.const (.pointer none))⟩,
 ⟨some 3, none, .mov (.tmp 83)⟩,
 ⟨some 4, none, .mov (.const (.int .i64 10))⟩])
 .ret)
 .skip))
 (.seq (.ops [⟨some 84, none, .mov (.tmp 0)⟩,
 ⟨some 85, none, .mov (.tmp 12)⟩,
 ⟨some 86, none, .mov (.tmp 10)⟩,
 ⟨some 87, none, .call (.func 117) [(.tmp 84), (.tmp 85), (.tmp 86)]⟩,
 ⟨some 88, none, .un .not (.tmp 87)⟩,
 ⟨some 89, none, .mov (.tmp 88)⟩,
 ⟨some 90, (some (89, true)), .mov (.tmp 0)⟩,
 ⟨some 91, (some (89, true)), .mov (.tmp 12)⟩,
 ⟨some 92, (some (89, true)), .mov (.tmp 10)⟩,
 ⟨some 93, (some (89, true)), .call (.func 118) [(.tmp 90), (.tmp 91), (.tmp 92)]⟩,
 ⟨some 94, (some (89, true)), .un .not (.tmp 93)⟩,
 ⟨some 95, none, .pick (.tmp 89) (.tmp 94) (.const (.bool false))⟩])
 (.cond (.tmp 95)
 (.seq (.ops [⟨some 96, none, .mov (.tmp 10)⟩,
 ⟨some 2, none, .mov (.const (.pointer none))⟩,
 ⟨some 3, none, .mov (.tmp 96)⟩,
 ⟨some 4, none, .mov (.const (.int .i64 15))⟩])
 .ret)
 .skip))))))))
 (.ops [⟨some 97, none, .bin .add (.tmp 59) (.const (.int .i64 1))⟩,
 ⟨some 59, none, .mov (.tmp 97)⟩])))))))
 (.seq (.ops [⟨some 98, none, .mov (.tmp 0)⟩,
 ⟨some 2, none, .mov (.tmp 98)⟩,
 ⟨some 3, none, .mov (.const (.int .i64 0))⟩,
 ⟨some 4, none, .mov (.const (.int .i64 0))⟩])
 .ret)))))⟩
theorem ok94 : compF Tryz.prog Tryz.f94 = some c94 := by kernel_rfl
def c95 : CF := ⟨17, [.tmp 4],
 (.seq (.ops [⟨some 4, none, .mov (.const (.string ⟨#[]⟩))⟩])
 (.seq (.block 0 (.loop (.seq (.seq (.ops [⟨some 5, none, .mov (.tmp 0)⟩,
 ⟨some 6, none, .lns (.tmp 5)⟩,
 ⟨some 7, none, .bin .gtr (.tmp 6) (.const (.int .i64 0))⟩,
 ⟨some 8, none, .mov (.tmp 7)⟩,
 ⟨some 9, (some (8, true)), .mov (.tmp 0)⟩,
 ⟨some 10, (some (8, true)), .ids (.tmp 9) (.const (.int .i64 0))⟩,
 ⟨some 11, (some (8, true)), .mov (.tmp 1)⟩,
 ⟨some 12, (some (8, true)), .bin .eql (.tmp 10) (.tmp 11)⟩,
 ⟨some 13, none, .pick (.tmp 8) (.tmp 12) (.const (.bool false))⟩])
 (.cond (.tmp 13)
 .skip
 (.exit 0)))
 (.block 1 (.ops [⟨some 14, none, .mov (.tmp 0)⟩,
 ⟨some 15, none, .sls (.tmp 14) (some (.const (.int .i64 1))) none⟩,
 ⟨some 0, none, .mov (.tmp 15)⟩])))))
 (.seq (.ops [⟨some 16, none, .mov (.tmp 0)⟩,
 ⟨some 4, none, .mov (.tmp 16)⟩])
 .ret)))⟩
theorem ok95 : compF Tryz.prog Tryz.f95 = some c95 := by kernel_rfl
def c96 : CF := ⟨21, [.cells 2 256, .tmp 3],
 (.seq (.ops [⟨some 2, none, .newz [(.bool false), (.bool false), (.bool false), (.bool false), (.bool false), (.bool false), (.bool false), (.bool false), (.bool false), (.bool false), (.bool false), (.bool false), (.bool false), (.bool false), (.bool false), (.bool false), (.bool false), (.bool false), (.bool false), (.bool false), (.bool false), (.bool false), (.bool false), (.bool false), (.bool false), (.bool false), (.bool false), (.bool false), (.bool false), (.bool false), (.bool false), (.bool false), (.bool false), (.bool false), (.bool false), (.bool false), (.bool false), (.bool false), (.bool false), (.bool false), (.bool false), (.bool false), (.bool false), (.bool false), (.bool false), (.bool false), (.bool false), (.bool false), (.bool false), (.bool false), (.bool false), (.bool false), (.bool false), (.bool false), (.bool false), (.bool false), (.bool false), (.bool false), (.bool false), (.bool false), (.bool false), (.bool false), (.bool false), (.bool false), (.bool false), (.bool false), (.bool false), (.bool false), (.bool false), (.bool false), (.bool false), (.bool false), (.bool false), (.bool false), (.bool false), (.bool false), (.bool false), (.bool false), (.bool false), (.bool false), (.bool false), (.bool false), (.bool false), (.bool false), (.bool false), (.bool false), (.bool false), (.bool false), (.bool false), (.bool false), (.bool false), (.bool false), (.bool false), (.bool false), (.bool false), (.bool false), (.bool false), (.bool false), (.bool false), (.bool false), (.bool false), (.bool false), (.bool false), (.bool false), (.bool false), (.bool false), (.bool false), (.bool false), (.bool false), (.bool false), (.bool false), (.bool false), (.bool false), (.bool false), (.bool false), (.bool false), (.bool false), (.bool false), (.bool false), (.bool false), (.bool false), (.bool false), (.bool false), (.bool false), (.bool false), (.bool false), (.bool false), (.bool false), (.bool false), (.bool false), (.bool false), (.bool false), (.bool false), (.bool false), (.bool false), (.bool false), (.bool false), (.bool false), (.bool false), (.bool false), (.bool false), (.bool false), (.bool false), (.bool false), (.bool false), (.bool false), (.bool false), (.bool false), (.bool false), (.bool false), (.bool false), (.bool false), (.bool false), (.bool false), (.bool false), (.bool false), (.bool false), (.bool false), (.bool false), (.bool false), (.bool false), (.bool false), (.bool false), (.bool false), (.bool false), (.bool false), (.bool false), (.bool false), (.bool false), (.bool false), (.bool false), (.bool false), (.bool false), (.bool false), (.bool false), (.bool false), (.bool false), (.bool false), (.bool false), (.bool false), (.bool false), (.bool false), (.bool false), (.bool false), (.bool false), (.bool false), (.bool false), (.bool false), (.bool false), (.bool false), (.bool false), (.bool false), (.bool false), (.bool false), (.bool false), (.bool false), (.bool false), (.bool false), (.bool false), (.bool false), (.bool false), (.bool false), (.bool false), (.bool false), (.bool false), (.bool false), (.bool false), (.bool false), (.bool false), (.bool false), (.bool false), (.bool false), (.bool false), (.bool false), (.bool false), (.bool false), (.bool false), (.bool false), (.bool false), (.bool false), (.bool false), (.bool false), (.bool false), (.bool false), (.bool false), (.bool false), (.bool false), (.bool false), (.bool false), (.bool false), (.bool false), (.bool false), (.bool false), (.bool false), (.bool false), (.bool false), (.bool false), (.bool false), (.bool false), (.bool false), (.bool false), (.bool false), (.bool false), (.bool false), (.bool false), (.bool false), (.bool false), (.bool false), (.bool false), (.bool false), (.bool false), (.bool false), (.bool false), (.bool false), (.bool false), (.bool false)]⟩,
 ⟨some 3, none, .mov (.const (.bool false))⟩])
 (.seq (.seq (.ops [⟨some 4, none, .mov (.const (.int .i64 0))⟩])
 (.block 0 (.loop (.seq (.seq (.ops [⟨some 6, none, .mov (.tmp 4)⟩,
 ⟨some 7, none, .mov (.tmp 0)⟩,
 ⟨some 8, none, .lns (.tmp 7)⟩,
 ⟨some 9, none, .bin .lss (.tmp 6) (.tmp 8)⟩])
 (.cond (.tmp 9)
 .skip
 (.exit 0)))
 (.seq (.block 1 (.seq (.ops [⟨some 12, none, .mov (.tmp 0)⟩,
 ⟨some 13, none, .mov (.tmp 4)⟩,
 ⟨some 14, none, .ids (.tmp 12) (.tmp 13)⟩,
 ⟨some 5, none, .mov (.tmp 14)⟩])
 (.seq (.seq (.ops [⟨some 15, none, .mov (.tmp 5)⟩,
 ⟨some 16, none, .bin .geq (.tmp 15) (.const (.int .u8 128))⟩])
 (.cond (.tmp 16)
 (.seq (.ops [⟨some 17, none, .ld 256 (.tmp 2)⟩,
 ⟨none, none, .st 256 (.tmp 2) (.tmp 17)⟩,
 ⟨some 3, none, .mov (.const (.bool false))⟩])
 .ret)
 .skip))
 (.ops [⟨some 18, none, .mov (.tmp 5)⟩,
 ⟨some 19, none, .iaa 256 1 (.tmp 2) (.tmp 18)⟩,
 ⟨none, none, .st 1 (.tmp 19) (.const (.bool true))⟩]))))
 (.ops [⟨some 10, none, .mov (.tmp 4)⟩,
 ⟨some 11, none, .bin .add (.tmp 10) (.const (.int .i64 1))⟩,
 ⟨some 4, none, .mov (.tmp 11)⟩]))))))
 (.seq (.ops [⟨some 20, none, .ld 256 (.tmp 2)⟩,
 ⟨none, none, .st 256 (.tmp 2) (.tmp 20)⟩,
 ⟨some 3, none, .mov (.const (.bool true))⟩])
 .ret)))⟩
theorem ok96 : compF Tryz.prog Tryz.f96 = some c96 := by kernel_rfl
def c97 : CF := ⟨16, [.tmp 4],
 (.seq (.ops [⟨some 4, none, .mov (.const (.string ⟨#[]⟩))⟩])
 (.seq (.block 0 (.loop (.seq (.seq (.ops [⟨some 5, none, .mov (.tmp 0)⟩,
 ⟨some 6, none, .lns (.tmp 5)⟩,
 ⟨some 7, none, .bin .gtr (.tmp 6) (.const (.int .i64 0))⟩])
 (.cond (.tmp 7)
 .skip
 (.exit 0)))
 (.block 1 (.seq (.seq (.ops [⟨some 8, none, .mov (.tmp 1)⟩,
 ⟨some 9, none, .mov (.tmp 0)⟩,
 ⟨some 10, none, .ids (.tmp 9) (.const (.int .i64 0))⟩,
 ⟨some 11, none, .call (.func 119) [(.tmp 8), (.tmp 10)]⟩,
 ⟨some 12, none, .un .not (.tmp 11)⟩])
 (.cond (.tmp 12)
 (.exit 0)
 .skip))
 (.ops [⟨some 13, none, .mov (.tmp 0)⟩,
 ⟨some 14, none, .sls (.tmp 13) (some (.const (.int .i64 1))) none⟩,
 ⟨some 0, none, .mov (.tmp 14)⟩]))))))
 (.seq (.ops [⟨some 15, none, .mov (.tmp 0)⟩,
 ⟨some 4, none, .mov (.tmp 15)⟩])
 .ret)))⟩
theorem ok97 : compF Tryz.prog Tryz.f97 = some c97 := by kernel_rfl
def c98 : CF := ⟨23, [.tmp 4],
 (.seq (.ops [⟨some 4, none, .mov (.const (.string ⟨#[]⟩))⟩])
 (.seq (.block 0 (.loop (.seq (.seq (.ops [⟨some 7, none, .mov (.tmp 0)⟩,
 ⟨some 8, none, .lns (.tmp 7)⟩,
 ⟨some 9, none, .bin .gtr (.tmp 8) (.const (.int .i64 0))⟩])
 (.cond (.tmp 9)
 .skip
 (.exit 0)))
 (.block 1 (.seq (.ops [⟨some 11, none, .mov (.tmp 0)⟩,
 ⟨some 12, none, .call (.func 120) [(.tmp 11)]⟩,
 ⟨some 10, none, .mov (.tmp 12)⟩,
 ⟨some 13, none, .ext (.tmp 10) 0⟩,
 ⟨some 14, none, .ext (.tmp 10) 1⟩,
 ⟨some 5, none, .mov (.tmp 13)⟩,
 ⟨some 6, none, .mov (.tmp 14)⟩])
 (.seq (.seq (.ops [⟨some 15, none, .mov (.tmp 1)⟩,
 ⟨some 16, none, .mov (.tmp 5)⟩,
 ⟨some 17, none, .call (.func 121) [(.tmp 15), (.tmp 16)]⟩,
 ⟨some 18, none, .un .not (.tmp 17)⟩])
 (.cond (.tmp 18)
 (.exit 0)
 .skip))
 (.ops [⟨some 19, none, .mov (.tmp 0)⟩,
 ⟨some 20, none, .mov (.tmp 6)⟩,
 ⟨some 21, none, .sls (.tmp 19) (some (.tmp 20)) none⟩,
 ⟨some 0, none, .mov (.tmp 21)⟩])))))))
 (.seq (.ops [⟨some 22, none, .mov (.tmp 0)⟩,
 ⟨some 4, none, .mov (.tmp 22)⟩])
 .ret)))⟩
theorem ok98 : compF Tryz.prog Tryz.f98 = some c98 := by kernel_rfl
def c99 : CF := ⟨13, [.tmp 4],
 (.seq (.ops [⟨some 4, none, .mov (.const (.string ⟨#[]⟩))⟩])
 (.seq (.seq (.ops [⟨some 5, none, .mov (.tmp 0)⟩,
 ⟨some 6, none, .mov (.tmp 1)⟩,
 ⟨some 7, none, .call (.func 101) [(.tmp 5), (.tmp 6)]⟩])
 (.cond (.tmp 7)
 (.seq (.ops [⟨some 8, none, .mov (.tmp 0)⟩,
 ⟨some 9, none, .mov (.tmp 1)⟩,
 ⟨some 10, none, .lns (.tmp 9)⟩,
 ⟨some 11, none, .sls (.tmp 8) (some (.tmp 10)) none⟩,
 ⟨some 4, none, .mov (.tmp 11)⟩])
 .ret)
 .skip))
 (.seq (.ops [⟨some 12, none, .mov (.tmp 0)⟩,
 ⟨some 4, none, .mov (.tmp 12)⟩])
 .ret)))⟩
theorem ok99 : compF Tryz.prog Tryz.f99 = some c99 := by kernel_rfl
def c100 : CF := ⟨55, [.tmp 4],
 (.seq (.ops [⟨some 4, none, .mov (.const (.int .i64 0))⟩])
 (.seq (.seq (.ops [⟨some 11, none, .mov (.tmp 1)⟩,
 ⟨some 12, none, .bin .eql (.tmp 11) (.const (.string ⟨#[]⟩))⟩])
 (.cond (.tmp 12)
 (.seq (.ops [⟨some 4, none, .mov (.const (.int .i64 (-1)))⟩])
 .ret)
 .skip))
 (.seq (.seq (.ops [⟨some 13, none, .mov (.tmp 1)⟩,
 ⟨some 14, none, .lns (.tmp 13)⟩,
 ⟨some 15, none, .bin .eql (.tmp 14) (.const (.int .i64 1))⟩])
 (.cond (.tmp 15)
 (.seq (.ops [⟨some 16, none, .mov (.tmp 1)⟩,
 ⟨some 17, none, .ids (.tmp 16) (.const (.int .i64 0))⟩,
 ⟨some 18, none, .cvi .i32 (.tmp 17)⟩,
 ⟨some 5, none, .mov (.tmp 18)⟩])
 (.seq (.seq (.ops [⟨some 19, none, .mov (.tmp 5)⟩,
 ⟨some 20, none, .bin .geq (.tmp 19) (.const (.int .i32 128))⟩])
 (.cond (.tmp 20)
 (.ops [⟨some 5, none, .mov (.const (.int .i32 65533))⟩])
 .skip))
 (.seq (.ops [⟨some 21, none, .mov (.tmp 0)⟩,
 ⟨some 22, none, .mov (.tmp 5)⟩,
 ⟨some 23, none, .call (.func 122) [(.tmp 21), (.tmp 22)]⟩,
 ⟨some 4, none, .mov (.tmp 23)⟩])
 .ret)))
 .skip))
 (.seq (.seq (.ops [⟨some 24, none, .mov (.tmp 0)⟩,
 ⟨some 25, none, .lns (.tmp 24)⟩,
 ⟨some 26, none, .call (.func 123) [(.tmp 25)]⟩])
 (.cond (.tmp 26)
 (.seq (.ops [⟨some 28, none, .mov (.tmp 1)⟩,
 ⟨some 29, none, .call (.func 96) [(.tmp 28)]⟩,
 ⟨some 27, none, .mov (.tmp 29)⟩,
 ⟨some 30, none, .ext (.tmp 27) 0⟩,
 ⟨some 31, none, .ext (.tmp 27) 1⟩,
 ⟨some 6, none, .newz [(.bool false), (.bool false), (.bool false), (.bool false), (.bool false), (.bool false), (.bool false), (.bool false), (.bool false), (.bool false), (.bool false), (.bool false), (.bool false), (.bool false), (.bool false), (.bool false), (.bool false), (.bool false), (.bool false), (.bool false), (.bool false), (.bool false), (.bool false), (.bool false), (.bool false), (.bool false), (.bool false), (.bool false), (.bool false), (.bool false), (.bool false), (.bool false), (.bool false), (.bool false), (.bool false), (.bool false), (.bool false), (.bool false), (.bool false), (.bool false), (.bool false), (.bool false), (.bool false), (.bool false), (.bool false), (.bool false), (.bool false), (.bool false), (.bool false), (.bool false), (.bool false), (.bool false), (.bool false), (.bool false), (.bool false), (.bool false), (.bool false), (.bool false), (.bool false), (.bool false), (.bool false), (.bool false), (.bool false), (.bool false), (.bool false), (.bool false), (.bool false), (.bool false), (.bool false), (.bool false), (.bool false), (.bool false), (.bool false), (.bool false), (.bool false), (.bool false), (.bool false), (.bool false), (.bool false), (.bool false), (.bool false), (.bool false), (.bool false), (.bool false), (.bool false), (.bool false), (.bool false), (.bool false), (.bool false), (.bool false), (.bool false), (.bool false), (.bool false), (.bool false), (.bool false), (.bool false), (.bool false), (.bool false), (.bool false), (.bool false), (.bool false), (.bool false), (.bool false), (.bool false), (.bool false), (.bool false), (.bool false), (.bool false), (.bool false), (.bool false), (.bool false), (.bool false), (.bool false), (.bool false), (.bool false), (.bool false), (.bool false), (.bool false), (.bool false), (.bool false), (.bool false), (.bool false), (.bool false), (.bool false), (.bool false), (.bool false), (.bool false), (.bool false), (.bool false), (.bool false), (.bool false), (.bool false), (.bool false), (.bool false), (.bool false), (.bool false), (.bool false), (.bool false), (.bool false), (.bool false), (.bool false), (.bool false), (.bool false), (.bool false), (.bool false), (.bool false), (.bool false), (.bool false), (.bool false), (.bool false), (.bool false), (.bool false), (.bool false), (.bool false), (.bool false), (.bool false), (.bool false), (.bool false), (.bool false), (.bool false), (.bool false), (.bool false), (.bool false), (.bool false), (.bool false), (.bool false), (.bool false), (.bool false), (.bool false), (.bool false), (.bool false), (.bool false), (.bool false), (.bool false), (.bool false), (.bool false), (.bool false), (.bool false), (.bool false), (.bool false), (.bool false), (.bool false), (.bool false), (.bool false), (.bool false), (.bool false), (.bool false), (.bool false), (.bool false), (.bool false), (.bool false), (.bool false), (.bool false), (.bool false), (.bool false), (.bool false), (.bool false), (.bool false), (.bool false), (.bool false), (.bool false), (.bool false), (.bool false), (.bool false), (.bool false), (.bool false), (.bool false), (.bool false), (.bool false), (.bool false), (.bool false), (.bool false), (.bool false), (.bool false), (.bool false), (.bool false), (.bool false), (.bool false), (.bool false), (.bool false), (.bool false), (.bool false), (.bool false), (.bool false), (.bool false), (.bool false), (.bool false), (.bool false), (.bool false), (.bool false), (.bool false), (.bool false), (.bool false), (.bool false), (.bool false), (.bool false), (.bool false), (.bool false), (.bool false), (.bool false), (.bool false), (.bool false), (.bool false), (.bool false), (.bool false), (.bool false), (.bool false), (.bool false), (.bool false), (.bool false), (.bool false), (.bool false), (.bool false), (.bool false), (.bool false), (.bool false)]⟩,
 ⟨none, none, .st 256 (.tmp 6) (.tmp 30)⟩,
 ⟨some 7, none, .mov (.tmp 31)⟩])
 (.seq (.ops [⟨some 32, none, .mov (.tmp 7)⟩])
 (.cond (.tmp 32)
 (.seq (.seq (.ops [⟨some 8, none, .mov (.const (.int .i64 0))⟩])
 (.block 0 (.loop (.seq (.seq (.ops [⟨some 33, none, .mov (.tmp 8)⟩,
 ⟨some 34, none, .mov (.tmp 0)⟩,
 ⟨some 35, none, .lns (.tmp 34)⟩,
 ⟨some 36, none, .bin .lss (.tmp 33) (.tmp 35)⟩])
 (.cond (.tmp 36)
 .skip
 (.exit 0)))
 (.seq (.block 1 (.seq (.ops [⟨some 39, none, .mov (.tmp 0)⟩,
 ⟨some 40, none, .mov (.tmp 8)⟩,
 ⟨some 41, none, .ids (.tmp 39) (.tmp 40)⟩,
 ⟨some 42, none, .call (.func 119) [(.tmp 6), (.tmp 41)]⟩])
 (.cond (.tmp 42)
 (.seq (.ops [⟨some 43, none, .mov (.tmp 8)⟩,
 ⟨some 4, none, .mov (.tmp 43)⟩])
 .ret)
 .skip)))
 (.ops [⟨some 37, none, .mov (.tmp 8)⟩,
 ⟨some 38, none, .bin .add (.tmp 37) (.const (.int .i64 1))⟩,
 ⟨some 8, none, .mov (.tmp 38)⟩]))))))
 (.seq (.ops [⟨some 4, none, .mov (.const (.int .i64 (-1)))⟩])
 .ret))
 .skip)))
 .skip))
 (.seq (.seq (.ops [⟨some 44, none, .mov (.tmp 0)⟩,
 ⟨some 45, none, .itr (.tmp 44)⟩])
 (.block 2 (.loop (.seq (.ops [⟨some 46, none, .nxt (.tmp 45)⟩,
 ⟨some 47, none, .ext (.tmp 46) 0⟩])
 (.seq (.cond (.tmp 47)
 .skip
 (.exit 2))
 (.block 3 (.seq (.ops [⟨some 48, none, .ext (.tmp 46) 1⟩,
 ⟨some 49, none, .ext (.tmp 46) 2⟩,
 ⟨some 9, none, .mov (.tmp 48)⟩,
 ⟨some 10, none, .mov (.tmp 49)⟩])
 (.seq (.ops [⟨some 50, none, .mov (.tmp 1)⟩,
 ⟨some 51, none, .mov (.tmp 10)⟩,
 ⟨some 52, none, .call (.func 122) [(.tmp 50), (.tmp 51)]⟩,
 ⟨some 53, none, .bin .geq (.tmp 52) (.const (.int .i64 0))⟩])
 (.cond (.tmp 53)
 (.seq (.ops [⟨some 54, none, .mov (.tmp 9)⟩,
 ⟨some 4, none, .mov (.tmp 54)⟩])
 .ret)
 .skip)))))))))
 (.seq (.ops [⟨some 4, none, .mov (.const (.int .i64 (-1)))⟩])
 .ret))))))⟩
theorem ok100 : compF Tryz.prog Tryz.f100 = some c100 := by kernel_rfl
def c101 : CF := ⟨18, [.tmp 4],
 (.seq (.ops [⟨some 4, none, .mov (.const (.bool false))⟩])
 (.seq (.ops [⟨some 5, none, .mov (.tmp 0)⟩,
 ⟨some 6, none, .lns (.tmp 5)⟩,
 ⟨some 7, none, .mov (.tmp 1)⟩,
 ⟨some 8, none, .lns (.tmp 7)⟩,
 ⟨some 9, none, .bin .geq (.tmp 6) (.tmp 8)⟩,
 ⟨some 10, none, .mov (.tmp 9)⟩,
 ⟨some 11, (some (10, true)), .mov (.tmp 0)⟩,
 ⟨some 12, (some (10, true)), .mov (.tmp 1)⟩,
 ⟨some 13, (some (10, true)), .lns (.tmp 12)⟩,
 ⟨some 14, (some (10, true)), .sls (.tmp 11) none (some (.tmp 13))⟩,
 ⟨some 15, (some (10, true)), .mov (.tmp 1)⟩,
 ⟨some 16, (some (10, true)), .bin .eql (.tmp 14) (.tmp 15)⟩,
 ⟨some 17, none, .pick (.tmp 10) (.tmp 16) (.const (.bool false))⟩,
 ⟨some 4, none, .mov (.tmp 17)⟩])
 .ret))⟩
theorem ok101 : compF Tryz.prog Tryz.f101 = some c101 := by kernel_rfl
def c102 : CF := ⟨30, [.cell1 2, .tmp 3],
 (.seq (.ops [⟨some 2, none, .newz [(.int .i64 0)]⟩,
 ⟨some 3, none, .mov (.const (.int .i64 0))⟩])
 (.seq (.seq (.ops [⟨some 6, none, .mov (.tmp 0)⟩,
 ⟨some 7, none, .lnl (.tmp 6)⟩,
 ⟨some 8, none, .bin .gtr (.tmp 7) (.const (.int .i64 8000))⟩])
 (.cond (.tmp 8)
 (.seq (.ops [⟨none, none, .st 1 (.tmp 2) (.const (.int .i64 0))⟩,
 ⟨some 3, none, .mov (.const (.int .i64 3))⟩])
 .ret)
 .skip))
 (.seq (.seq (.ops [⟨some 9, none, .mov (.tmp 0)⟩,
 ⟨some 10, none, .call (.func 103) [(.tmp 9)]⟩])
 (.block 0 (.rangeF (.tmp 10) [11, 12]
 (.seq (.ops [⟨some 4, none, .mov (.tmp 11)⟩])
 (.ops [⟨some 5, none, .mov (.tmp 12)⟩]))
 (.block 1 (.ops [⟨some 13, none, .mov (.tmp 4)⟩,
 ⟨some 14, none, .mov (.tmp 5)⟩,
 ⟨some 15, none, .call (.func 124) [(.tmp 14)]⟩,
 ⟨some 16, none, .bin .add (.tmp 13) (.tmp 15)⟩,
 ⟨none, none, .st 1 (.tmp 2) (.tmp 16)⟩])))))
 (.seq (.seq (.ops [⟨some 17, none, .ld1 (.tmp 2)⟩,
 ⟨some 18, none, .mov (.tmp 0)⟩,
 ⟨some 19, none, .lnl (.tmp 18)⟩,
 ⟨some 20, none, .bin .lss (.tmp 17) (.tmp 19)⟩])
 (.cond (.tmp 20)
 (.ops [⟨some 22, none, .mov (.tmp 0)⟩,
 ⟨some 23, none, .ld1 (.tmp 2)⟩,
 ⟨some 24, none, .call (.func 125) [(.tmp 22), (.tmp 23)]⟩,
 ⟨some 21, none, .mov (.tmp 24)⟩,
 ⟨some 25, none, .ext (.tmp 21) 0⟩,
 ⟨some 26, none, .ext (.tmp 21) 1⟩,
 ⟨some 27, none, .ext (.tmp 21) 2⟩,
 ⟨some 3, none, .mov (.tmp 27)⟩])
 .skip))
 (.seq (.ops [⟨some 28, none, .ld1 (.tmp 2)⟩,
 ⟨some 29, none, .mov (.tmp 3)⟩,
 ⟨none, none, .st 1 (.tmp 2) (.tmp 28)⟩,
 ⟨some 3, none, .mov (.tmp 29)⟩])
 .ret)))))⟩
theorem ok102 : compF Tryz.prog Tryz.f102 = some c102 := by kernel_rfl
def c103 : CF := ⟨4, [.tmp 2],
 (.seq (.ops [⟨some 1, none, .box (.tmp 0)⟩,
 ⟨some 2, none, .mov (.const .nilFunc)⟩])
 (.seq (.ops [⟨some 3, none, .fn 126 [] [(.tmp 1)]⟩,
 ⟨some 2, none, .mov (.tmp 3)⟩])
 .ret))⟩
theorem ok103 : compF Tryz.prog Tryz.f103 = some c103 := by kernel_rfl
def c104 : CF := ⟨5, [.tmp 2],
 (.seq (.ops [⟨some 2, none, .mov (.const (.bool false))⟩])
 (.seq (.ops [⟨some 3, none, .mov (.tmp 0)⟩,
 ⟨some 4, none, .call (.func 127) [(.tmp 3)]⟩,
 ⟨some 2, none, .mov (.tmp 4)⟩])
 .ret))⟩
theorem ok104 : compF Tryz.prog Tryz.f104 = some c104 := by kernel_rfl
def c105 : CF := ⟨2, [.cells 0 10],
 (.seq (.ops [⟨some 0, none, .newz [(.string ⟨#[]⟩), (.string ⟨#[]⟩), (.string ⟨#[]⟩), (.string ⟨#[]⟩), (.string ⟨#[]⟩), (.string ⟨#[]⟩), (.string ⟨#[]⟩), (.string ⟨#[]⟩), (.string ⟨#[]⟩), (.string ⟨#[]⟩)]⟩])
 (.seq (.ops [⟨some 1, none, .agg [(.string ⟨#[]⟩), (.string ⟨#[]⟩), (.string ⟨#[]⟩), (.string ⟨#[]⟩), (.string ⟨#[]⟩), (.string ⟨#[]⟩), (.string ⟨#[]⟩), (.string ⟨#[]⟩), (.string ⟨#[]⟩), (.string ⟨#[]⟩)] [(1, 1, (.const (.string ⟨#[9, 10, 13, 32]⟩))), (2, 1, (.const (.string ⟨#[40, 91]⟩))), (3, 1, (.const (.string ⟨#[41, 93]⟩))), (4, 1, (.const (.string ⟨#[39]⟩))), (5, 1, (.const (.string ⟨#[35]⟩))), (6, 1, (.const (.string ⟨#[59]⟩))), (8, 1, (.const (.string ⟨#[43, 45]⟩))), (9, 1, (.const (.string ⟨#[33, 36, 37, 38, 42, 47, 58, 60, 61, 62, 63, 94, 95, 126, 46, 64]⟩)))]⟩,
 ⟨none, none, .st 10 (.tmp 0) (.tmp 1)⟩])
 .ret))⟩
theorem ok105 : compF Tryz.prog Tryz.f105 = some c105 := by kernel_rfl
def c106 : CF := ⟨15, [.tmp 4],
 (.seq (.ops [⟨some 4, none, .mov (.const (.bool false))⟩])
 (.seq (.seq (.ops [⟨some 7, none, .mov (.tmp 0)⟩,
 ⟨some 8, none, .itr (.tmp 7)⟩])
 (.block 0 (.loop (.seq (.ops [⟨some 9, none, .nxt (.tmp 8)⟩,
 ⟨some 10, none, .ext (.tmp 9) 0⟩])
 (.seq (.cond (.tmp 10)
 .skip
 (.exit 0))
 (.block 1 (.seq (.ops [⟨some 11, none, .ext (.tmp 9) 2⟩,
 ⟨some 6, none, .mov (.tmp 11)⟩])
 (.seq (.ops [⟨some 12, none, .mov (.tmp 6)⟩,
 ⟨some 13, none, .mov (.tmp 1)⟩,
 ⟨some 14, none, .bin .eql (.tmp 12) (.tmp 13)⟩])
 (.cond (.tmp 14)
 (.seq (.ops [⟨some 4, none, .mov (.const (.bool true))⟩])
 .ret)
 .skip)))))))))
 (.seq (.ops [⟨some 4, none, .mov (.const (.bool false))⟩])
 .ret)))⟩
theorem ok106 : compF Tryz.prog Tryz.f106 = some c106 := by kernel_rfl
def c107 : CF := ⟨76, [],
 (.seq (.ops [⟨some 10, none, .mov (.tmp 1)⟩,
 ⟨some 8, none, .mov (.tmp 10)⟩])
 (.block 0 (.loop (.block 1 (.seq (.ops [⟨some 11, none, .mov (.tmp 8)⟩,
 ⟨some 12, none, .bin .mul (.const (.int .i64 2)) (.tmp 11)⟩,
 ⟨some 13, none, .bin .add (.tmp 12) (.const (.int .i64 1))⟩,
 ⟨some 9, none, .mov (.tmp 13)⟩])
 (.seq (.seq (.ops [⟨some 14, none, .mov (.tmp 9)⟩,
 ⟨some 15, none, .mov (.tmp 2)⟩,
 ⟨some 16, none, .bin .geq (.tmp 14) (.tmp 15)⟩])
 (.cond (.tmp 16)
 (.exit 0)
 .skip))
 (.seq (.seq (.draw [⟨some 17, none, .mov (.tmp 9)⟩,
 ⟨some 18, none, .bin .add (.tmp 17) (.const (.int .i64 1))⟩,
 ⟨some 19, none, .mov (.tmp 2)⟩,
 ⟨some 20, none, .bin .lss (.tmp 18) (.tmp 19)⟩,
 ⟨some 21, none, .mov (.tmp 20)⟩,
 ⟨some 22, (some (21, true)), .mov (.tmp 0)⟩,
 ⟨some 23, (some (21, true)), .mov (.tmp 3)⟩,
 ⟨some 24, (some (21, true)), .mov (.tmp 9)⟩,
 ⟨some 25, (some (21, true)), .bin .add (.tmp 23) (.tmp 24)⟩,
 ⟨some 26, (some (21, true)), .iad 1 (.tmp 22) (.tmp 25)⟩,
 ⟨some 27, (some (21, true)), .ld1 (.tmp 26)⟩,
 ⟨some 28, (some (21, true)), .mov (.tmp 0)⟩,
 ⟨some 29, (some (21, true)), .mov (.tmp 3)⟩,
 ⟨some 30, (some (21, true)), .mov (.tmp 9)⟩,
 ⟨some 31, (some (21, true)), .bin .add (.tmp 29) (.tmp 30)⟩,
 ⟨some 32, (some (21, true)), .bin .add (.tmp 31) (.const (.int .i64 1))⟩,
 ⟨some 33, (some (21, true)), .iad 1 (.tmp 28) (.tmp 32)⟩,
 ⟨some 34, (some (21, true)), .ld1 (.tmp 33)⟩,
 ⟨some 35, (some (21, true)), .call (.func 82) [(.tmp 27), (.tmp 34)]⟩,
 ⟨some 36, none, .pick (.tmp 21) (.tmp 35) (.const (.bool false))⟩] [(0, 2), (1, 2), (5, 6), (5, 7), (6, 7), (5, 8), (5, 11), (6, 11), (7, 11), (8, 11), (9, 11), (10, 11), (5, 12), (6, 12), (7, 12), (8, 12), (9, 12), (10, 12), (11, 12), (5, 13), (6, 13), (7, 13), (8, 13), (9, 13), (10, 13), (11, 13), (12, 13), (5, 14), (6, 14), (7, 14), (8, 14), (9, 14), (10, 14), (11, 14), (5, 15), (6, 15), (7, 15), (8, 15), (9, 15), (10, 15), (11, 15), (5, 16), (6, 16), (7, 16), (8, 16), (9, 16), (10, 16), (5, 17), (6, 17), (7, 17), (8, 17), (9, 17), (10, 17)])
 (.cond (.tmp 36)
 (.ops [⟨some 37, none, .mov (.tmp 9)⟩,
 ⟨some 38, none, .bin .add (.tmp 37) (.const (.int .i64 1))⟩,
 ⟨some 9, none, .mov (.tmp 38)⟩])
 .skip))
 (.seq (.seq (.draw [⟨some 39, none, .mov (.tmp 0)⟩,
 ⟨some 40, none, .mov (.tmp 3)⟩,
 ⟨some 41, none, .mov (.tmp 8)⟩,
 ⟨some 42, none, .bin .add (.tmp 40) (.tmp 41)⟩,
 ⟨some 43, none, .iad 1 (.tmp 39) (.tmp 42)⟩,
 ⟨some 44, none, .ld1 (.tmp 43)⟩,
 ⟨some 45, none, .mov (.tmp 0)⟩,
 ⟨some 46, none, .mov (.tmp 3)⟩,
 ⟨some 47, none, .mov (.tmp 9)⟩,
 ⟨some 48, none, .bin .add (.tmp 46) (.tmp 47)⟩,
 ⟨some 49, none, .iad 1 (.tmp 45) (.tmp 48)⟩,
 ⟨some 50, none, .ld1 (.tmp 49)⟩,
 ⟨some 51, none, .call (.func 82) [(.tmp 44), (.tmp 50)]⟩,
 ⟨some 52, none, .un .not (.tmp 51)⟩] [(0, 1), (0, 2), (1, 2), (0, 3), (0, 6), (1, 6), (2, 6), (3, 6), (4, 6), (5, 6), (0, 7), (1, 7), (2, 7), (3, 7), (4, 7), (5, 7), (6, 7), (0, 8), (1, 8), (2, 8), (3, 8), (4, 8), (5, 8), (6, 8), (7, 8), (0, 9), (1, 9), (2, 9), (3, 9), (4, 9), (5, 9), (6, 9), (0, 10), (1, 10), (2, 10), (3, 10), (4, 10), (5, 10), (0, 11), (1, 11), (2, 11), (3, 11), (4, 11), (5, 11)])
 (.cond (.tmp 52)
 .ret
 .skip))
 (.seq (.draw [⟨some 53, none, .mov (.tmp 0)⟩,
 ⟨some 54, none, .mov (.tmp 3)⟩,
 ⟨some 55, none, .mov (.tmp 8)⟩,
 ⟨some 56, none, .bin .add (.tmp 54) (.tmp 55)⟩,
 ⟨some 57, none, .mov (.tmp 0)⟩,
 ⟨some 58, none, .mov (.tmp 3)⟩,
 ⟨some 59, none, .mov (.tmp 9)⟩,
 ⟨some 60, none, .bin .add (.tmp 58) (.tmp 59)⟩,
 ⟨some 61, none, .mov (.tmp 0)⟩,
 ⟨some 62, none, .mov (.tmp 3)⟩,
 ⟨some 63, none, .mov (.tmp 9)⟩,
 ⟨some 64, none, .bin .add (.tmp 62) (.tmp 63)⟩,
 ⟨some 65, none, .iad 1 (.tmp 61) (.tmp 64)⟩,
 ⟨some 66, none, .ld1 (.tmp 65)⟩,
 ⟨some 67, none, .mov (.tmp 0)⟩,
 ⟨some 68, none, .mov (.tmp 3)⟩,
 ⟨some 69, none, .mov (.tmp 8)⟩,
 ⟨some 70, none, .bin .add (.tmp 68) (.tmp 69)⟩,
 ⟨some 71, none, .iad 1 (.tmp 67) (.tmp 70)⟩,
 ⟨some 72, none, .ld1 (.tmp 71)⟩,
 ⟨some 73, none, .iad 1 (.tmp 53) (.tmp 56)⟩,
 ⟨none, none, .st 1 (.tmp 73) (.tmp 66)⟩,
 ⟨some 74, none, .iad 1 (.tmp 57) (.tmp 60)⟩,
 ⟨none, none, .st 1 (.tmp 74) (.tmp 72)⟩] [(0, 1), (0, 2), (1, 2), (0, 3), (0, 4), (1, 4), (2, 4), (3, 4), (0, 5), (1, 5), (2, 5), (3, 5), (4, 5), (0, 6), (1, 6), (2, 6), (3, 6), (4, 6), (5, 6), (0, 7), (1, 7), (2, 7), (3, 7), (4, 7), (0, 8), (1, 8), (2, 8), (3, 8), (4, 8), (5, 8), (6, 8), (7, 8), (0, 9), (1, 9), (2, 9), (3, 9), (4, 9), (5, 9), (6, 9), (7, 9), (8, 9), (0, 10), (1, 10), (2, 10), (3, 10), (4, 10), (5, 10), (6, 10), (7, 10), (8, 10), (9, 10), (0, 11), (1, 11), (2, 11), (3, 11), (4, 11), (5, 11), (6, 11), (7, 11), (8, 11), (0, 12), (1, 12), (2, 12), (3, 12), (4, 12), (5, 12), (6, 12), (7, 12), (0, 13), (1, 13), (2, 13), (3, 13), (4, 13), (5, 13), (6, 13), (7, 13), (0, 14), (1, 14), (2, 14), (3, 14), (4, 14), (5, 14), (6, 14), (7, 14), (8, 14), (9, 14), (10, 14), (11, 14), (12, 14), (13, 14), (0, 15), (1, 15), (2, 15), (3, 15), (4, 15), (5, 15), (6, 15), (7, 15), (8, 15), (9, 15), (10, 15), (11, 15), (12, 15), (13, 15), (14, 15), (0, 16), (1, 16), (2, 16), (3, 16), (4, 16), (5, 16), (6, 16), (7, 16), (8, 16), (9, 16), (10, 16), (11, 16), (12, 16), (13, 16), (14, 16), (15, 16), (0, 17), (1, 17), (2, 17), (3, 17), (4, 17), (5, 17), (6, 17), (7, 17), (8, 17), (9, 17), (10, 17), (11, 17), (12, 17), (13, 17), (14, 17), (0, 18), (1, 18), (2, 18), (3, 18), (4, 18), (5, 18), (6, 18), (7, 18), (8, 18), (9, 18), (10, 18), (11, 18), (12, 18), (13, 18), (0, 19), (1, 19), (2, 19), (3, 19), (4, 19), (5, 19), (6, 19), (7, 19), (8, 19), (9, 19), (10, 19), (11, 19), (12, 19), (13, 19), (4, 20), (5, 20), (6, 20), (7, 20), (4, 21), (5, 21), (6, 21), (7, 21)])
 (.ops [⟨some 75, none, .mov (.tmp 9)⟩,
 ⟨some 8, none, .mov (.tmp 75)⟩]))))))))))⟩
theorem ok107 : compF Tryz.prog Tryz.f107 = some c107 := by kernel_rfl
def c108 : CF := ⟨7, [.tmp 2],
 (.seq (.ops [⟨some 2, none, .mov (.const (.int .u64 0))⟩])
 (.seq (.ops [⟨some 3, none, .mov (.tmp 0)⟩,
 ⟨some 4, none, .cvi .u64 (.tmp 3)⟩,
 ⟨some 5, none, .call (.func 56) [(.tmp 4)]⟩,
 ⟨some 6, none, .bin .shl (.const (.int .u64 1)) (.tmp 5)⟩,
 ⟨some 2, none, .mov (.tmp 6)⟩])
 .ret))⟩
theorem ok108 : compF Tryz.prog Tryz.f108 = some c108 := by kernel_rfl
def c109 : CF := ⟨33, [.tmp 2],
 (.seq (.ops [⟨some 2, none, .mov (.const (.int .u64 0))⟩])
 (.seq (.draw [⟨some 3, none, .mov (.tmp 0)⟩,
 ⟨some 4, none, .nilck (.tmp 3)⟩,
 ⟨some 5, none, .ld1 (.tmp 4)⟩,
 ⟨some 6, none, .mov (.tmp 0)⟩,
 ⟨some 7, none, .nilck (.tmp 6)⟩,
 ⟨some 8, none, .ld1 (.tmp 7)⟩,
 ⟨some 9, none, .bin .shl (.tmp 8) (.const (.int .u64 13))⟩,
 ⟨some 10, none, .bin .xor (.tmp 5) (.tmp 9)⟩,
 ⟨some 11, none, .nilck (.tmp 3)⟩,
 ⟨none, none, .st 1 (.tmp 11) (.tmp 10)⟩] [(0, 3), (1, 3), (2, 3), (0, 4), (1, 4), (2, 4), (0, 5), (1, 5), (2, 5), (0, 6), (1, 6), (2, 6)])
 (.seq (.draw [⟨some 12, none, .mov (.tmp 0)⟩,
 ⟨some 13, none, .nilck (.tmp 12)⟩,
 ⟨some 14, none, .ld1 (.tmp 13)⟩,
 ⟨some 15, none, .mov (.tmp 0)⟩,
 ⟨some 16, none, .nilck (.tmp 15)⟩,
 ⟨some 17, none, .ld1 (.tmp 16)⟩,
 ⟨some 18, none, .bin .shr (.tmp 17) (.const (.int .u64 7))⟩,
 ⟨some 19, none, .bin .xor (.tmp 14) (.tmp 18)⟩,
 ⟨some 20, none, .nilck (.tmp 12)⟩,
 ⟨none, none, .st 1 (.tmp 20) (.tmp 19)⟩] [(0, 3), (1, 3), (2, 3), (0, 4), (1, 4), (2, 4), (0, 5), (1, 5), (2, 5), (0, 6), (1, 6), (2, 6)])
 (.seq (.draw [⟨some 21, none, .mov (.tmp 0)⟩,
 ⟨some 22, none, .nilck (.tmp 21)⟩,
 ⟨some 23, none, .ld1 (.tmp 22)⟩,
 ⟨some 24, none, .mov (.tmp 0)⟩,
 ⟨some 25, none, .nilck (.tmp 24)⟩,
 ⟨some 26, none, .ld1 (.tmp 25)⟩,
 ⟨some 27, none, .bin .shl (.tmp 26) (.const (.int .u64 17))⟩,
 ⟨some 28, none, .bin .xor (.tmp 23) (.tmp 27)⟩,
 ⟨some 29, none, .nilck (.tmp 21)⟩,
 ⟨none, none, .st 1 (.tmp 29) (.tmp 28)⟩] [(0, 3), (1, 3), (2, 3), (0, 4), (1, 4), (2, 4), (0, 5), (1, 5), (2, 5), (0, 6), (1, 6), (2, 6)])
 (.seq (.ops [⟨some 30, none, .mov (.tmp 0)⟩,
 ⟨some 31, none, .nilck (.tmp 30)⟩,
 ⟨some 32, none, .ld1 (.tmp 31)⟩,
 ⟨some 2, none, .mov (.tmp 32)⟩])
 .ret)))))⟩
theorem ok109 : compF Tryz.prog Tryz.f109 = some c109 := by kernel_rfl
def c110 : CF := ⟨15, [.tmp 6],
 (.seq (.ops [⟨some 6, none, .mov (.const (.int .i64 0))⟩])
 (.seq (.ops [⟨some 7, none, .mov (.tmp 0)⟩,
 ⟨some 8, none, .mov (.tmp 1)⟩,
 ⟨some 9, none, .bin .sub (.tmp 8) (.const (.int .i64 1))⟩,
 ⟨some 10, none, .mov (.tmp 1)⟩,
 ⟨some 11, none, .mov (.tmp 1)⟩,
 ⟨some 12, none, .bin .add (.tmp 11) (.const (.int .i64 1))⟩,
 ⟨some 13, none, .mov (.tmp 2)⟩,
 ⟨some 14, none, .call (.func 111) [(.tmp 7), (.tmp 9), (.tmp 10), (.tmp 12), (.tmp 13)]⟩,
 ⟨some 6, none, .mov (.tmp 14)⟩])
 .ret))⟩
theorem ok110 : compF Tryz.prog Tryz.f110 = some c110 := by kernel_rfl
def c111 : CF := ⟨36, [.tmp 10],
 (.seq (.ops [⟨some 10, none, .mov (.const (.int .i64 0))⟩])
 (.seq (.ops [⟨some 12, none, .mov (.tmp 0)⟩,
 ⟨some 13, none, .mov (.tmp 1)⟩,
 ⟨some 14, none, .mov (.tmp 2)⟩,
 ⟨some 15, none, .mov (.tmp 4)⟩,
 ⟨some 16, none, .call (.func 128) [(.tmp 12), (.tmp 13), (.tmp 14), (.tmp 15)]⟩,
 ⟨some 11, none, .mov (.tmp 16)⟩,
 ⟨some 17, none, .ext (.tmp 11) 0⟩,
 ⟨some 18, none, .ext (.tmp 11) 1⟩,
 ⟨some 1, none, .mov (.tmp 17)⟩,
 ⟨some 2, none, .mov (.tmp 18)⟩])
 (.seq (.ops [⟨some 20, none, .mov (.tmp 0)⟩,
 ⟨some 21, none, .mov (.tmp 2)⟩,
 ⟨some 22, none, .mov (.tmp 3)⟩,
 ⟨some 23, none, .mov (.tmp 4)⟩,
 ⟨some 24, none, .call (.func 128) [(.tmp 20), (.tmp 21), (.tmp 22), (.tmp 23)]⟩,
 ⟨some 19, none, .mov (.tmp 24)⟩,
 ⟨some 25, none, .ext (.tmp 19) 0⟩,
 ⟨some 26, none, .ext (.tmp 19) 1⟩,
 ⟨some 2, none, .mov (.tmp 25)⟩,
 ⟨some 3, none, .mov (.tmp 26)⟩])
 (.seq (.ops [⟨some 28, none, .mov (.tmp 0)⟩,
 ⟨some 29, none, .mov (.tmp 1)⟩,
 ⟨some 30, none, .mov (.tmp 2)⟩,
 ⟨some 31, none, .mov (.tmp 4)⟩,
 ⟨some 32, none, .call (.func 128) [(.tmp 28), (.tmp 29), (.tmp 30), (.tmp 31)]⟩,
 ⟨some 27, none, .mov (.tmp 32)⟩,
 ⟨some 33, none, .ext (.tmp 27) 0⟩,
 ⟨some 34, none, .ext (.tmp 27) 1⟩,
 ⟨some 1, none, .mov (.tmp 33)⟩,
 ⟨some 2, none, .mov (.tmp 34)⟩])
 (.seq (.ops [⟨some 35, none, .mov (.tmp 2)⟩,
 ⟨some 10, none, .mov (.tmp 35)⟩])
 .ret)))))⟩
theorem ok111 : compF Tryz.prog Tryz.f111 = some c111 := by kernel_rfl
def c112 : CF := ⟨6, [.tmp 2],
 (.seq (.ops [⟨some 2, none, .mov (.const (.bool false))⟩])
 (.seq (.ops [⟨some 3, none, .mov (.tmp 0)⟩,
 ⟨some 4, none, .mov (.tmp 0)⟩,
 ⟨some 5, none, .bin .neq (.tmp 3) (.tmp 4)⟩,
 ⟨some 2, none, .mov (.tmp 5)⟩])
 .ret))⟩
theorem ok112 : compF Tryz.prog Tryz.f112 = some c112 := by kernel_rfl
def c113 : CF := ⟨17, [.tmp 2],
 (.seq (.ops [⟨some 2, none, .mov (.const (.bool false))⟩])
 (.seq (.ops [⟨some 3, none, .mov (.tmp 0)⟩,
 ⟨some 4, none, .bin .eql (.tmp 3) (.const (.int .i64 4))⟩,
 ⟨some 5, none, .mov (.tmp 4)⟩,
 ⟨some 6, (some (5, false)), .mov (.tmp 0)⟩,
 ⟨some 7, (some (5, false)), .bin .eql (.tmp 6) (.const (.int .i64 6))⟩,
 ⟨some 8, none, .pick (.tmp 5) (.const (.bool true)) (.tmp 7)⟩,
 ⟨some 9, none, .mov (.tmp 8)⟩,
 ⟨some 10, (some (9, false)), .mov (.tmp 0)⟩,
 ⟨some 11, (some (9, false)), .bin .eql (.tmp 10) (.const (.int .i64 9))⟩,
 ⟨some 12, none, .pick (.tmp 9) (.const (.bool true)) (.tmp 11)⟩,
 ⟨some 13, none, .mov (.tmp 12)⟩,
 ⟨some 14, (some (13, false)), .mov (.tmp 0)⟩,
 ⟨some 15, (some (13, false)), .bin .eql (.tmp 14) (.const (.int .i64 7))⟩,
 ⟨some 16, none, .pick (.tmp 13) (.const (.bool true)) (.tmp 15)⟩,
 ⟨some 2, none, .mov (.tmp 16)⟩])
 .ret))⟩
theorem ok113 : compF Tryz.prog Tryz.f113 = some c113 := by kernel_rfl
def c114 : CF := ⟨61, [.tmp 4],
 (.seq (.ops [⟨some 3, none, .box (.tmp 1)⟩,
 ⟨some 4, none, .mov (.const (.int .i64 0))⟩])
 (.seq (.seq (.ops [⟨some 7, none, .fad (.tmp 3) 0⟩,
 ⟨some 8, none, .ld1 (.tmp 7)⟩,
 ⟨some 9, none, .bin .lss (.tmp 8) (.const (.int .i64 0))⟩])
 (.cond (.tmp 9)
 (.seq (.ops [⟨some 4, none, .mov (.const (.int .i64 0))⟩])
 .ret)
 .skip))
 (.seq (.draw [⟨some 10, none, .mov (.tmp 0)⟩,
 ⟨some 11, none, .nilck (.tmp 10)⟩,
 ⟨some 12, none, .fad (.tmp 11) 0⟩,
 ⟨some 13, none, .ld1 (.tmp 12)⟩,
 ⟨some 14, none, .fad (.tmp 3) 0⟩,
 ⟨some 15, none, .ld1 (.tmp 14)⟩,
 ⟨some 16, none, .iad 7 (.tmp 13) (.tmp 15)⟩,
 ⟨some 17, none, .ld 7 (.tmp 16)⟩,
 ⟨some 5, none, .newz [(.int .i64 0), (.int .i64 0), (.int .i64 0), (.string ⟨#[]⟩), (.int .i64 0), (.int .i64 0), (.int .i64 0)]⟩,
 ⟨none, none, .st 7 (.tmp 5) (.tmp 17)⟩] [(0, 4), (1, 4), (2, 4), (3, 4), (0, 5), (1, 5), (2, 5), (3, 5), (0, 8), (1, 8), (2, 8), (3, 8), (4, 8), (5, 8), (6, 8), (7, 8)])
 (.seq (.draw [⟨some 18, none, .mov (.tmp 0)⟩,
 ⟨some 19, none, .fad (.tmp 5) 0⟩,
 ⟨some 20, none, .ld1 (.tmp 19)⟩,
 ⟨some 21, none, .nilck (.tmp 18)⟩,
 ⟨some 22, none, .fad (.tmp 21) 2⟩,
 ⟨some 23, none, .iaa 25 5 (.tmp 22) (.tmp 20)⟩,
 ⟨some 24, none, .ld 5 (.tmp 23)⟩,
 ⟨some 6, none, .newz [(.int .i64 0), (.int .i64 0), (.int .i64 0), (.int .i64 0), (.slice none 0 0)]⟩,
 ⟨none, none, .st 5 (.tmp 6) (.tmp 24)⟩] [(0, 1), (0, 2), (1, 3), (2, 3), (1, 4), (2, 4), (0, 7), (1, 7), (2, 7), (3, 7), (4, 7), (5, 7), (6, 7)])
 (.seq (.block 0 (.seq (.ops [⟨some 26, none, .fad (.tmp 3) 1⟩,
 ⟨some 27, none, .ld1 (.tmp 26)⟩,
 ⟨some 28, none, .fad (.tmp 5) 1⟩,
 ⟨some 29, none, .ld1 (.tmp 28)⟩,
 ⟨some 30, none, .bin .sub (.tmp 29) (.const (.int .i64 1))⟩,
 ⟨some 31, none, .bin .eql (.tmp 27) (.tmp 30)⟩,
 ⟨some 25, none, .mov (.tmp 31)⟩])
 (.cond (.tmp 25)
 (.seq (.ops [⟨some 32, none, .fad (.tmp 6) 3⟩,
 ⟨some 33, none, .ld1 (.tmp 32)⟩,
 ⟨some 4, none, .mov (.tmp 33)⟩])
 .ret)
 (.seq (.ops [⟨some 35, none, .fad (.tmp 5) 0⟩,
 ⟨some 36, none, .ld1 (.tmp 35)⟩,
 ⟨some 37, none, .call (.func 115) [(.tmp 36)]⟩,
 ⟨some 38, none, .mov (.tmp 37)⟩,
 ⟨some 39, (some (38, true)), .fad (.tmp 3) 1⟩,
 ⟨some 40, (some (38, true)), .ld1 (.tmp 39)⟩,
 ⟨some 41, (some (38, true)), .bin .rem (.tmp 40) (.const (.int .i64 2))⟩,
 ⟨some 42, (some (38, true)), .bin .eql (.tmp 41) (.const (.int .i64 1))⟩,
 ⟨some 43, none, .pick (.tmp 38) (.tmp 42) (.const (.bool false))⟩,
 ⟨some 44, none, .mov (.tmp 43)⟩,
 ⟨some 45, (some (44, true)), .fad (.tmp 5) 0⟩,
 ⟨some 46, (some (44, true)), .ld1 (.tmp 45)⟩,
 ⟨some 47, (some (44, true)), .bin .eql (.tmp 46) (.const (.int .i64 14))⟩,
 ⟨some 48, none, .pick (.tmp 44) (.tmp 47) (.const (.bool false))⟩,
 ⟨some 34, none, .mov (.tmp 48)⟩])
 (.cond (.tmp 34)
 (.seq (.ops [⟨some 4, none, .mov (.const (.int .i64 6))⟩])
 .ret)
 (.seq (.ops [⟨some 50, none, .fad (.tmp 5) 0⟩,
 ⟨some 51, none, .ld1 (.tmp 50)⟩,
 ⟨some 52, none, .call (.func 115) [(.tmp 51)]⟩,
 ⟨some 53, none, .mov (.tmp 52)⟩,
 ⟨some 54, (some (53, true)), .fad (.tmp 3) 1⟩,
 ⟨some 55, (some (53, true)), .ld1 (.tmp 54)⟩,
 ⟨some 56, (some (53, true)), .bin .rem (.tmp 55) (.const (.int .i64 2))⟩,
 ⟨some 57, (some (53, true)), .bin .eql (.tmp 56) (.const (.int .i64 1))⟩,
 ⟨some 58, none, .pick (.tmp 53) (.tmp 57) (.const (.bool false))⟩,
 ⟨some 49, none, .mov (.tmp 58)⟩])
 (.cond (.tmp 49)
 (.seq (.ops [⟨some 4, none, .mov (.const (.int .i64 0))⟩])
 .ret)
 .skip)))))))
 (.seq (.ops [⟨some 59, none, .fad (.tmp 6) 2⟩,
 ⟨some 60, none, .ld1 (.tmp 59)⟩,
 ⟨some 4, none, .mov (.tmp 60)⟩])
 .ret))))))⟩
theorem ok114 : compF Tryz.prog Tryz.f114 = some c114 := by kernel_rfl
def c115 : CF := ⟨10, [.tmp 2],
 (.seq (.ops [⟨some 2, none, .mov (.const (.bool false))⟩])
 (.seq (.seq (.ops [⟨some 3, none, .mov (.tmp 0)⟩])
 (.block 0 (.seq (.block 3 (.block 2 (.block 1 (.seq (.seq (.seq (.ops [⟨some 5, none, .bin .eql (.tmp 3) (.const (.int .i64 12))⟩,
 ⟨some 4, none, .mov (.tmp 5)⟩])
 (.cond (.tmp 4)
 (.exit 1)
 .skip))
 (.seq (.seq (.ops [⟨some 7, none, .bin .eql (.tmp 3) (.const (.int .i64 13))⟩,
 ⟨some 6, none, .mov (.tmp 7)⟩])
 (.cond (.tmp 6)
 (.exit 2)
 .skip))
 (.seq (.ops [⟨some 9, none, .bin .eql (.tmp 3) (.const (.int .i64 14))⟩,
 ⟨some 8, none, .mov (.tmp 9)⟩])
 (.cond (.tmp 8)
 (.exit 3)
 .skip))))
 (.exit 0)))))
 (.seq (.seq (.ops [⟨some 2, none, .mov (.const (.bool true))⟩])
 .ret)
 (.exit 0)))))
 (.seq (.ops [⟨some 2, none, .mov (.const (.bool false))⟩])
 .ret)))⟩
theorem ok115 : compF Tryz.prog Tryz.f115 = some c115 := by kernel_rfl
def c116 : CF := ⟨9, [.tmp 4],
 (.seq (.ops [⟨some 4, none, .mov (.const (.bool false))⟩])
 (.seq (.ops [⟨some 5, none, .mov (.tmp 0)⟩,
 ⟨some 6, none, .mov (.tmp 1)⟩,
 ⟨some 7, none, .call (.func 129) [(.tmp 5), (.tmp 6)]⟩,
 ⟨some 8, none, .bin .geq (.tmp 7) (.const (.int .i64 0))⟩,
 ⟨some 4, none, .mov (.tmp 8)⟩])
 .ret))⟩
theorem ok116 : compF Tryz.prog Tryz.f116 = some c116 := by kernel_rfl
def c117 : CF := ⟨98, [.tmp 6],
 (.seq (.ops [⟨some 6, none, .mov (.const (.bool false))⟩])
 (.seq (.ops [⟨some 11, none, .mov (.tmp 0)⟩,
 ⟨some 12, none, .nilck (.tmp 11)⟩,
 ⟨some 13, none, .fad (.tmp 12) 1⟩,
 ⟨some 14, none, .ld1 (.tmp 13)⟩,
 ⟨some 15, none, .mov (.tmp 1)⟩,
 ⟨some 16, none, .iad 3 (.tmp 14) (.tmp 15)⟩,
 ⟨some 17, none, .fad (.tmp 16) 0⟩,
 ⟨some 18, none, .ld1 (.tmp 17)⟩,
 ⟨some 7, none, .mov (.tmp 18)⟩])
 (.seq (.ops [⟨some 19, none, .mov (.tmp 2)⟩,
 ⟨some 8, none, .mov (.tmp 19)⟩])
 (.seq (.block 0 (.loop (.seq (.seq (.ops [⟨some 20, none, .mov (.tmp 8)⟩,
 ⟨some 21, none, .bin .geq (.tmp 20) (.const (.int .i64 0))⟩,
 ⟨some 22, none, .mov (.tmp 21)⟩,
 ⟨some 23, (some (22, true)), .mov (.tmp 0)⟩,
 ⟨some 24, (some (22, true)), .nilck (.tmp 23)⟩,
 ⟨some 25, (some (22, true)), .fad (.tmp 24) 1⟩,
 ⟨some 26, (some (22, true)), .ld1 (.tmp 25)⟩,
 ⟨some 27, (some (22, true)), .mov (.tmp 8)⟩,
 ⟨some 28, (some (22, true)), .iad 3 (.tmp 26) (.tmp 27)⟩,
 ⟨some 29, (some (22, true)), .fad (.tmp 28) 0⟩,
 ⟨some 30, (some (22, true)), .ld1 (.tmp 29)⟩,
 ⟨some 31, (some (22, true)), .mov (.tmp 7)⟩,
 ⟨some 32, (some (22, true)), .bin .neq (.tmp 30) (.tmp 31)⟩,
 ⟨some 33, none, .pick (.tmp 22) (.tmp 32) (.const (.bool false))⟩])
 (.cond (.tmp 33)
 .skip
 (.exit 0)))
 (.block 1 (.ops [⟨some 34, none, .mov (.tmp 0)⟩,
 ⟨some 35, none, .nilck (.tmp 34)⟩,
 ⟨some 36, none, .fad (.tmp 35) 1⟩,
 ⟨some 37, none, .ld1 (.tmp 36)⟩,
 ⟨some 38, none, .mov (.tmp 8)⟩,
 ⟨some 39, none, .iad 3 (.tmp 37) (.tmp 38)⟩,
 ⟨some 40, none, .fad (.tmp 39) 0⟩,
 ⟨some 41, none, .ld1 (.tmp 40)⟩,
 ⟨some 8, none, .mov (.tmp 41)⟩])))))
 (.seq (.seq (.ops [⟨some 42, none, .mov (.tmp 8)⟩,
 ⟨some 43, none, .bin .lss (.tmp 42) (.const (.int .i64 0))⟩,
 ⟨some 44, none, .mov (.tmp 43)⟩,
 ⟨some 45, (some (44, false)), .mov (.tmp 8)⟩,
 ⟨some 46, (some (44, false)), .mov (.tmp 1)⟩,
 ⟨some 47, (some (44, false)), .bin .eql (.tmp 45) (.tmp 46)⟩,
 ⟨some 48, none, .pick (.tmp 44) (.const (.bool true)) (.tmp 47)⟩])
 (.cond (.tmp 48)
 (.seq (.ops [⟨some 6, none, .mov (.const (.bool false))⟩])
 .ret)
 .skip))
 (.seq (.draw [⟨some 49, none, .mov (.tmp 0)⟩,
 ⟨some 50, none, .nilck (.tmp 49)⟩,
 ⟨some 51, none, .fad (.tmp 50) 0⟩,
 ⟨some 52, none, .ld1 (.tmp 51)⟩,
 ⟨some 53, none, .mov (.tmp 7)⟩,
 ⟨some 54, none, .iad 7 (.tmp 52) (.tmp 53)⟩,
 ⟨some 55, none, .ld 7 (.tmp 54)⟩,
 ⟨some 56, none, .mov (.tmp 0)⟩,
 ⟨some 57, none, .nilck (.tmp 56)⟩,
 ⟨some 58, none, .fad (.tmp 57) 1⟩,
 ⟨some 59, none, .ld1 (.tmp 58)⟩,
 ⟨some 60, none, .mov (.tmp 8)⟩,
 ⟨some 61, none, .iad 3 (.tmp 59) (.tmp 60)⟩,
 ⟨some 62, none, .fad (.tmp 61) 1⟩,
 ⟨some 63, none, .ld1 (.tmp 62)⟩,
 ⟨some 9, none, .newz [(.int .i64 0), (.int .i64 0), (.int .i64 0), (.string ⟨#[]⟩), (.int .i64 0), (.int .i64 0), (.int .i64 0)]⟩,
 ⟨none, none, .st 7 (.tmp 9) (.tmp 55)⟩,
 ⟨some 10, none, .mov (.tmp 63)⟩] [(0, 4), (1, 4), (2, 4), (3, 4), (0, 7), (1, 7), (2, 7), (3, 7), (4, 7), (5, 7), (6, 7), (0, 8), (1, 8), (2, 8), (3, 8), (4, 8), (5, 8), (6, 8), (0, 9), (1, 9), (2, 9), (3, 9), (4, 9), (5, 9), (6, 9), (0, 10), (1, 10), (2, 10), (3, 10), (4, 10), (5, 10), (6, 10), (0, 11), (1, 11), (2, 11), (3, 11), (4, 11), (5, 11), (6, 11), (7, 11), (8, 11), (9, 11), (10, 11), (0, 12), (1, 12), (2, 12), (3, 12), (4, 12), (5, 12), (6, 12), (0, 13), (1, 13), (2, 13), (3, 13), (4, 13), (5, 13), (6, 13), (0, 14), (1, 14), (2, 14), (3, 14), (4, 14), (5, 14), (6, 14), (0, 15), (1, 15), (2, 15), (3, 15), (4, 15), (5, 15), (6, 15), (7, 15), (8, 15), (9, 15), (10, 15), (11, 15), (12, 15), (13, 15), (14, 15), (7, 16), (8, 16), (9, 16), (10, 16), (11, 16), (12, 16), (13, 16), (14, 16)])
 (.seq (.block 2 (.seq (.ops [⟨some 65, none, .mov (.tmp 10)⟩,
 ⟨some 66, none, .fad (.tmp 9) 1⟩,
 ⟨some 67, none, .ld1 (.tmp 66)⟩,
 ⟨some 68, none, .bin .sub (.tmp 67) (.const (.int .i64 1))⟩,
 ⟨some 69, none, .bin .eql (.tmp 65) (.tmp 68)⟩,
 ⟨some 64, none, .mov (.tmp 69)⟩])
 (.cond (.tmp 64)
 (.seq (.ops [⟨some 6, none, .mov (.const (.bool true))⟩])
 .ret)
 (.seq (.ops [⟨some 71, none, .fad (.tmp 9) 0⟩,
 ⟨some 72, none, .ld1 (.tmp 71)⟩,
 ⟨some 73, none, .bin .eql (.tmp 72) (.const (.int .i64 14))⟩,
 ⟨some 70, none, .mov (.tmp 73)⟩])
 (.cond (.tmp 70)
 (.seq (.ops [⟨some 74, none, .mov (.tmp 10)⟩,
 ⟨some 75, none, .bin .rem (.tmp 74) (.const (.int .i64 2))⟩,
 ⟨some 76, none, .bin .eql (.tmp 75) (.const (.int .i64 1))⟩,
 ⟨some 6, none, .mov (.tmp 76)⟩])
 .ret)
 .skip)))))
 (.seq (.ops [⟨some 77, none, .fad (.tmp 9) 0⟩,
 ⟨some 78, none, .ld1 (.tmp 77)⟩,
 ⟨some 79, none, .bin .eql (.tmp 78) (.const (.int .i64 13))⟩,
 ⟨some 80, none, .mov (.tmp 79)⟩,
 ⟨some 81, (some (80, true)), .mov (.tmp 10)⟩,
 ⟨some 82, (some (80, true)), .bin .rem (.tmp 81) (.const (.int .i64 2))⟩,
 ⟨some 83, (some (80, true)), .bin .eql (.tmp 82) (.const (.int .i64 1))⟩,
 ⟨some 84, none, .pick (.tmp 80) (.tmp 83) (.const (.bool false))⟩,
 ⟨some 85, none, .mov (.tmp 84)⟩,
 ⟨some 86, (some (85, true)), .mov (.tmp 10)⟩,
 ⟨some 87, (some (85, true)), .mov (.tmp 0)⟩,
 ⟨some 88, (some (85, true)), .nilck (.tmp 87)⟩,
 ⟨some 89, (some (85, true)), .fad (.tmp 88) 1⟩,
 ⟨some 90, (some (85, true)), .ld1 (.tmp 89)⟩,
 ⟨some 91, (some (85, true)), .mov (.tmp 1)⟩,
 ⟨some 92, (some (85, true)), .iad 3 (.tmp 90) (.tmp 91)⟩,
 ⟨some 93, (some (85, true)), .fad (.tmp 92) 1⟩,
 ⟨some 94, (some (85, true)), .ld1 (.tmp 93)⟩,
 ⟨some 95, (some (85, true)), .bin .add (.tmp 94) (.const (.int .i64 1))⟩,
 ⟨some 96, (some (85, true)), .bin .gtr (.tmp 86) (.tmp 95)⟩,
 ⟨some 97, none, .pick (.tmp 85) (.tmp 96) (.const (.bool false))⟩,
 ⟨some 6, none, .mov (.tmp 97)⟩])
 .ret))))))))⟩
theorem ok117 : compF Tryz.prog Tryz.f117 = some c117 := by kernel_rfl
def c118 : CF := ⟨47, [.tmp 6],
 (.seq (.ops [⟨some 6, none, .mov (.const (.bool false))⟩])
 (.seq (.seq (.ops [⟨some 9, none, .mov (.tmp 0)⟩,
 ⟨some 10, none, .nilck (.tmp 9)⟩,
 ⟨some 11, none, .fad (.tmp 10) 0⟩,
 ⟨some 12, none, .ld1 (.tmp 11)⟩,
 ⟨some 13, none, .lnl (.tmp 12)⟩,
 ⟨some 14, none, .mov (.const (.int .i64 0))⟩])
 (.block 0 (.loop (.seq (.ops [⟨some 15, none, .bin .lss (.tmp 14) (.tmp 13)⟩])
 (.seq (.cond (.tmp 15)
 .skip
 (.exit 0))
 (.seq (.block 1 (.seq (.ops [⟨some 16, none, .mov (.tmp 14)⟩,
 ⟨some 17, none, .iad 7 (.tmp 12) (.tmp 14)⟩,
 ⟨some 18, none, .ld 7 (.tmp 17)⟩,
 ⟨some 8, none, .newz [(.int .i64 0), (.int .i64 0), (.int .i64 0), (.string ⟨#[]⟩), (.int .i64 0), (.int .i64 0), (.int .i64 0)]⟩,
 ⟨some 7, none, .mov (.tmp 16)⟩,
 ⟨none, none, .st 7 (.tmp 8) (.tmp 18)⟩])
 (.seq (.draw [⟨some 19, none, .mov (.tmp 7)⟩,
 ⟨some 20, none, .mov (.tmp 1)⟩,
 ⟨some 21, none, .bin .gtr (.tmp 19) (.tmp 20)⟩,
 ⟨some 22, none, .mov (.tmp 21)⟩,
 ⟨some 23, (some (22, true)), .fad (.tmp 8) 0⟩,
 ⟨some 24, (some (22, true)), .ld1 (.tmp 23)⟩,
 ⟨some 25, (some (22, true)), .bin .eql (.tmp 24) (.const (.int .i64 9))⟩,
 ⟨some 26, none, .pick (.tmp 22) (.tmp 25) (.const (.bool false))⟩,
 ⟨some 27, none, .mov (.tmp 26)⟩,
 ⟨some 28, (some (27, true)), .fad (.tmp 8) 2⟩,
 ⟨some 29, (some (27, true)), .ld1 (.tmp 28)⟩,
 ⟨some 30, (some (27, true)), .mov (.tmp 0)⟩,
 ⟨some 31, (some (27, true)), .nilck (.tmp 30)⟩,
 ⟨some 32, (some (27, true)), .fad (.tmp 31) 0⟩,
 ⟨some 33, (some (27, true)), .ld1 (.tmp 32)⟩,
 ⟨some 34, (some (27, true)), .mov (.tmp 1)⟩,
 ⟨some 35, (some (27, true)), .iad 7 (.tmp 33) (.tmp 34)⟩,
 ⟨some 36, (some (27, true)), .fad (.tmp 35) 2⟩,
 ⟨some 37, (some (27, true)), .ld1 (.tmp 36)⟩,
 ⟨some 38, (some (27, true)), .bin .eql (.tmp 29) (.tmp 37)⟩,
 ⟨some 39, none, .pick (.tmp 27) (.tmp 38) (.const (.bool false))⟩,
 ⟨some 40, none, .mov (.tmp 39)⟩,
 ⟨some 41, (some (40, true)), .mov (.tmp 0)⟩,
 ⟨some 42, (some (40, true)), .mov (.tmp 7)⟩,
 ⟨some 43, (some (40, true)), .mov (.tmp 2)⟩,
 ⟨some 44, (some (40, true)), .call (.func 117) [(.tmp 41), (.tmp 42), (.tmp 43)]⟩,
 ⟨some 45, none, .pick (.tmp 40) (.tmp 44) (.const (.bool false))⟩] [(0, 1), (9, 11), (10, 11), (9, 12), (10, 12), (9, 13), (10, 13), (9, 14), (10, 14), (9, 15), (10, 15), (11, 15), (12, 15), (13, 15), (14, 15), (9, 16), (10, 16), (9, 17), (10, 17), (9, 18), (10, 18), (22, 23), (22, 24), (23, 24)])
 (.cond (.tmp 45)
 (.seq (.ops [⟨some 6, none, .mov (.const (.bool true))⟩])
 .ret)
 .skip))))
 (.ops [⟨some 46, none, .bin .add (.tmp 14) (.const (.int .i64 1))⟩,
 ⟨some 14, none, .mov (.tmp 46)⟩])))))))
 (.seq (.ops [⟨some 6, none, .mov (.const (.bool false))⟩])
 .ret)))⟩
theorem ok118 : compF Tryz.prog Tryz.f118 = some c118 := by kernel_rfl
def c119 : CF := ⟨10, [.tmp 4],
 (.seq (.ops [⟨some 4, none, .mov (.const (.bool false))⟩])
 (.seq (.ops [⟨some 5, none, .mov (.tmp 0)⟩,
 ⟨some 6, none, .mov (.tmp 1)⟩,
 ⟨some 7, none, .nilck (.tmp 5)⟩,
 ⟨some 8, none, .iaa 256 1 (.tmp 7) (.tmp 6)⟩,
 ⟨some 9, none, .ld1 (.tmp 8)⟩,
 ⟨some 4, none, .mov (.tmp 9)⟩])
 .ret))⟩
theorem ok119 : compF Tryz.prog Tryz.f119 = some c119 := by kernel_rfl
def c120 : CF := ⟨19, [.tmp 2, .tmp 3],
 (.seq (.ops [⟨some 2, none, .mov (.const (.int .i32 0))⟩,
 ⟨some 3, none, .mov (.const (.int .i64 0))⟩])
 (.seq (.seq (.ops [⟨some 4, none, .mov (.tmp 0)⟩,
 ⟨some 5, none, .bin .neq (.tmp 4) (.const (.string ⟨#[]⟩))⟩,
 ⟨some 6, none, .mov (.tmp 5)⟩,
 ⟨some 7, (some (6, true)), .mov (.tmp 0)⟩,
 ⟨some 8, (some (6, true)), .ids (.tmp 7) (.const (.int .i64 0))⟩,
 ⟨some 9, (some (6, true)), .bin .lss (.tmp 8) (.const (.int .u8 128))⟩,
 ⟨some 10, none, .pick (.tmp 6) (.tmp 9) (.const (.bool false))⟩])
 (.cond (.tmp 10)
 (.seq (.ops [⟨some 11, none, .mov (.tmp 0)⟩,
 ⟨some 12, none, .ids (.tmp 11) (.const (.int .i64 0))⟩,
 ⟨some 13, none, .cvi .i32 (.tmp 12)⟩,
 ⟨some 2, none, .mov (.tmp 13)⟩,
 ⟨some 3, none, .mov (.const (.int .i64 1))⟩])
 .ret)
 (.ops [⟨some 15, none, .mov (.tmp 0)⟩,
 ⟨some 16, none, .call (.func 130) [(.tmp 15)]⟩,
 ⟨some 14, none, .mov (.tmp 16)⟩,
 ⟨some 17, none, .ext (.tmp 14) 0⟩,
 ⟨some 18, none, .ext (.tmp 14) 1⟩,
 ⟨some 2, none, .mov (.tmp 17)⟩,
 ⟨some 3, none, .mov (.tmp 18)⟩])))
 .ret))⟩
theorem ok120 : compF Tryz.prog Tryz.f120 = some c120 := by kernel_rfl
def c121 : CF := ⟨9, [.tmp 4],
 (.seq (.ops [⟨some 4, none, .mov (.const (.bool false))⟩])
 (.seq (.ops [⟨some 5, none, .mov (.tmp 0)⟩,
 ⟨some 6, none, .mov (.tmp 1)⟩,
 ⟨some 7, none, .call (.func 122) [(.tmp 5), (.tmp 6)]⟩,
 ⟨some 8, none, .bin .geq (.tmp 7) (.const (.int .i64 0))⟩,
 ⟨some 4, none, .mov (.tmp 8)⟩])
 .ret))⟩
theorem ok121 : compF Tryz.prog Tryz.f121 = some c121 := by kernel_rfl
def c122 : CF := ⟨187, [.tmp 4],
 (.seq (.ops [⟨some 4, none, .mov (.const (.int .i64 0))⟩])
 (.block 0 (.seq (.ops [⟨some 161, none, .mov (.tmp 1)⟩,
 ⟨some 162, none, .bin .leq (.const (.int .i32 0)) (.tmp 161)⟩,
 ⟨some 163, none, .mov (.tmp 162)⟩,
 ⟨some 164, (some (163, true)), .mov (.tmp 1)⟩,
 ⟨some 165, (some (163, true)), .bin .lss (.tmp 164) (.const (.int .i32 128))⟩,
 ⟨some 166, none, .pick (.tmp 163) (.tmp 165) (.const (.bool false))⟩,
 ⟨some 160, none, .mov (.tmp 166)⟩])
 (.cond (.tmp 160)
 (.seq (.ops [⟨some 167, none, .mov (.tmp 0)⟩,
 ⟨some 168, none, .mov (.tmp 1)⟩,
 ⟨some 169, none, .cvi .u8 (.tmp 168)⟩,
 ⟨some 170, none, .call (.func 131) [(.tmp 167), (.tmp 169)]⟩,
 ⟨some 4, none, .mov (.tmp 170)⟩])
 .ret)
 (.seq (.ops [⟨some 172, none, .mov (.tmp 1)⟩,
 ⟨some 173, none, .bin .eql (.tmp 172) (.const (.int .i32 65533))⟩,
 ⟨some 171, none, .mov (.tmp 173)⟩])
 (.cond (.tmp 171)
 (.seq (.seq (.ops [⟨some 174, none, .mov (.tmp 0)⟩,
 ⟨some 175, none, .itr (.tmp 174)⟩])
 (.block 9 (.loop (.seq (.ops [⟨some 176, none, .nxt (.tmp 175)⟩,
 ⟨some 177, none, .ext (.tmp 176) 0⟩])
 (.seq (.cond (.tmp 177)
 .skip
 (.exit 9))
 (.block 10 (.seq (.ops [⟨some 178, none, .ext (.tmp 176) 1⟩,
 ⟨some 179, none, .ext (.tmp 176) 2⟩,
 ⟨some 5, none, .mov (.tmp 178)⟩,
 ⟨some 6, none, .mov (.tmp 179)⟩])
 (.seq (.ops [⟨some 180, none, .mov (.tmp 6)⟩,
 ⟨some 181, none, .bin .eql (.tmp 180) (.const (.int .i32 65533))⟩])
 (.cond (.tmp 181)
 (.seq (.ops [⟨some 182, none, .mov (.tmp 5)⟩,
 ⟨some 4, none, .mov (.tmp 182)⟩])
 .ret)
 .skip)))))))))
 (.seq (.ops [⟨some 4, none, .mov (.const (.int .i64 (-1)))⟩])
 .ret))
 (.seq (.ops [⟨some 184, none, .mov (.tmp 1)⟩,
 ⟨some 185, none, .call (.func 127) [(.tmp 184)]⟩,
 ⟨some 186, none, .un .not (.tmp 185)⟩,
 ⟨some 183, none, .mov (.tmp 186)⟩])
 (.cond (.tmp 183)
 (.seq (.ops [⟨some 4, none, .mov (.const (.int .i64 (-1)))⟩])
 .ret)
 (.scope (.seq (.ops [⟨some 17, none, .mov (.tmp 1)⟩,
 ⟨some 18, none, .bad⟩,
 ⟨some 7, none, .mov (.tmp 18)⟩])
 (.seq (.ops [⟨some 19, none, .mov (.tmp 7)⟩,
 ⟨some 20, none, .lns (.tmp 19)⟩,
 ⟨some 21, none, .bin .sub (.tmp 20) (.const (.int .i64 1))⟩,
 ⟨some 8, none, .mov (.tmp 21)⟩])
 (.seq (.ops [⟨some 22, none, .mov (.tmp 8)⟩,
 ⟨some 9, none, .mov (.tmp 22)⟩])
 (.seq (.ops [⟨some 10, none, .mov (.const (.int .i64 0))⟩])
 (.seq (.block 1 (.loop (.seq (.seq (.ops [⟨some 23, none, .mov (.tmp 9)⟩,
 ⟨some 24, none, .mov (.tmp 0)⟩,
 ⟨some 25, none, .lns (.tmp 24)⟩,
 ⟨some 26, none, .bin .lss (.tmp 23) (.tmp 25)⟩])
 (.cond (.tmp 26)
 .skip
 (.exit 1)))
 (.block 2 (.scope (.seq (.seq (.draw [⟨some 27, none, .mov (.tmp 0)⟩,
 ⟨some 28, none, .mov (.tmp 9)⟩,
 ⟨some 29, none, .ids (.tmp 27) (.tmp 28)⟩,
 ⟨some 30, none, .mov (.tmp 7)⟩,
 ⟨some 31, none, .mov (.tmp 8)⟩,
 ⟨some 32, none, .ids (.tmp 30) (.tmp 31)⟩,
 ⟨some 33, none, .bin .neq (.tmp 29) (.tmp 32)⟩] [(0, 1), (0, 3), (1, 3), (2, 3), (0, 4), (1, 4), (2, 4), (3, 4), (0, 5), (1, 5), (2, 5)])
 (.cond (.tmp 33)
 (.seq (.draw [⟨some 34, none, .mov (.tmp 0)⟩,
 ⟨some 35, none, .mov (.tmp 9)⟩,
 ⟨some 36, none, .bin .add (.tmp 35) (.const (.int .i64 1))⟩,
 ⟨some 37, none, .sls (.tmp 34) (some (.tmp 36)) none⟩,
 ⟨some 38, none, .mov (.tmp 7)⟩,
 ⟨some 39, none, .mov (.tmp 8)⟩,
 ⟨some 40, none, .ids (.tmp 38) (.tmp 39)⟩,
 ⟨some 41, none, .call (.func 131) [(.tmp 37), (.tmp 40)]⟩,
 ⟨some 11, none, .mov (.tmp 41)⟩] [(0, 1), (0, 2), (0, 4), (1, 4), (2, 4), (3, 4), (0, 5), (1, 5), (2, 5), (3, 5), (4, 5), (0, 6), (1, 6), (2, 6), (3, 6)])
 (.seq (.seq (.ops [⟨some 42, none, .mov (.tmp 11)⟩,
 ⟨some 43, none, .bin .lss (.tmp 42) (.const (.int .i64 0))⟩])
 (.cond (.tmp 43)
 (.seq (.ops [⟨some 4, none, .mov (.const (.int .i64 (-1)))⟩])
 .ret)
 .skip))
 (.ops [⟨some 44, none, .mov (.tmp 9)⟩,
 ⟨some 45, none, .mov (.tmp 11)⟩,
 ⟨some 46, none, .bin .add (.tmp 45) (.const (.int .i64 1))⟩,
 ⟨some 47, none, .bin .add (.tmp 44) (.tmp 46)⟩,
 ⟨some 9, none, .mov (.tmp 47)⟩])))
 .skip))
 (.seq (.seq (.ops [⟨some 12, none, .mov (.const (.int .i64 1))⟩])
 (.block 3 (.loop (.seq (.seq (.ops [⟨some 48, none, .mov (.tmp 12)⟩,
 ⟨some 49, none, .mov (.tmp 7)⟩,
 ⟨some 50, none, .lns (.tmp 49)⟩,
 ⟨some 51, none, .bin .lss (.tmp 48) (.tmp 50)⟩])
 (.cond (.tmp 51)
 .skip
 (.exit 3)))
 (.seq (.block 4 (.seq (.draw [⟨some 54, none, .mov (.tmp 0)⟩,
 ⟨some 55, none, .mov (.tmp 9)⟩,
 ⟨some 56, none, .mov (.tmp 12)⟩,
 ⟨some 57, none, .bin .sub (.tmp 55) (.tmp 56)⟩,
 ⟨some 58, none, .ids (.tmp 54) (.tmp 57)⟩,
 ⟨some 59, none, .mov (.tmp 7)⟩,
 ⟨some 60, none, .mov (.tmp 8)⟩,
 ⟨some 61, none, .mov (.tmp 12)⟩,
 ⟨some 62, none, .bin .sub (.tmp 60) (.tmp 61)⟩,
 ⟨some 63, none, .ids (.tmp 59) (.tmp 62)⟩,
 ⟨some 64, none, .bin .neq (.tmp 58) (.tmp 63)⟩] [(0, 1), (0, 2), (1, 2), (0, 3), (0, 5), (1, 5), (2, 5), (3, 5), (4, 5), (0, 6), (1, 6), (2, 6), (3, 6), (4, 6), (5, 6), (0, 7), (1, 7), (2, 7), (3, 7), (4, 7), (5, 7), (6, 7), (0, 8), (1, 8), (2, 8), (3, 8), (4, 8), (5, 8), (0, 9), (1, 9), (2, 9), (3, 9), (4, 9)])
 (.cond (.tmp 64)
 (.goto 0)
 .skip)))
 (.ops [⟨some 52, none, .mov (.tmp 12)⟩,
 ⟨some 53, none, .bin .add (.tmp 52) (.const (.int .i64 1))⟩,
 ⟨some 12, none, .mov (.tmp 53)⟩]))))))
 (.seq (.seq (.ops [⟨some 65, none, .mov (.tmp 9)⟩,
 ⟨some 66, none, .mov (.tmp 8)⟩,
 ⟨some 67, none, .bin .sub (.tmp 65) (.tmp 66)⟩,
 ⟨some 4, none, .mov (.tmp 67)⟩])
 .ret)
 (.seq (.label 0)
 (.seq (.ops [⟨some 68, none, .mov (.tmp 10)⟩,
 ⟨some 69, none, .bin .add (.tmp 68) (.const (.int .i64 1))⟩,
 ⟨some 10, none, .mov (.tmp 69)⟩])
 (.seq (.ops [⟨some 70, none, .mov (.tmp 9)⟩,
 ⟨some 71, none, .bin .add (.tmp 70) (.const (.int .i64 1))⟩,
 ⟨some 9, none, .mov (.tmp 71)⟩])
 (.seq (.ops [⟨some 72, none, .mov (.const (.bool true))⟩,
 ⟨some 73, (some (72, true)), .mov (.tmp 10)⟩,
 ⟨some 74, (some (72, true)), .mov (.tmp 9)⟩,
 ⟨some 75, (some (72, true)), .call (.func 132) [(.tmp 74)]⟩,
 ⟨some 76, (some (72, true)), .bin .gtr (.tmp 73) (.tmp 75)⟩,
 ⟨some 77, none, .pick (.tmp 72) (.tmp 76) (.const (.bool false))⟩,
 ⟨some 78, none, .mov (.tmp 77)⟩,
 ⟨some 79, (some (78, true)), .mov (.tmp 9)⟩,
 ⟨some 80, (some (78, true)), .mov (.tmp 0)⟩,
 ⟨some 81, (some (78, true)), .lns (.tmp 80)⟩,
 ⟨some 82, (some (78, true)), .bin .lss (.tmp 79) (.tmp 81)⟩,
 ⟨some 83, none, .pick (.tmp 78) (.tmp 82) (.const (.bool false))⟩,
 ⟨some 84, none, .mov (.tmp 83)⟩,
 ⟨some 85, (some (84, false)), .mov (.const (.bool false))⟩,
 ⟨some 86, (some (85, true)), .mov (.tmp 10)⟩,
 ⟨some 87, (some (85, true)), .mov (.tmp 9)⟩,
 ⟨some 88, (some (85, true)), .bin .shr (.tmp 87) (.const (.int .u64 4))⟩,
 ⟨some 89, (some (85, true)), .bin .add (.const (.int .i64 4)) (.tmp 88)⟩,
 ⟨some 90, (some (85, true)), .bin .geq (.tmp 86) (.tmp 89)⟩,
 ⟨some 91, (some (84, false)), .pick (.tmp 85) (.tmp 90) (.const (.bool false))⟩,
 ⟨some 92, (some (84, false)), .mov (.tmp 91)⟩,
 ⟨some 93, (some (92, true)), .mov (.tmp 9)⟩,
 ⟨some 94, (some (92, true)), .mov (.tmp 0)⟩,
 ⟨some 95, (some (92, true)), .lns (.tmp 94)⟩,
 ⟨some 96, (some (92, true)), .bin .lss (.tmp 93) (.tmp 95)⟩,
 ⟨some 97, (some (84, false)), .pick (.tmp 92) (.tmp 96) (.const (.bool false))⟩,
 ⟨some 98, none, .pick (.tmp 84) (.const (.bool true)) (.tmp 97)⟩])
 (.cond (.tmp 98)
 (.goto 1)
 .skip)))))))))))))
 (.seq (.seq (.ops [⟨some 4, none, .mov (.const (.int .i64 (-1)))⟩])
 .ret)
 (.seq (.label 1)
 (.seq (.cond (.const (.bool true))
 (.seq (.ops [⟨some 99, none, .mov (.tmp 0)⟩,
 ⟨some 100, none, .mov (.tmp 9)⟩,
 ⟨some 101, none, .mov (.tmp 8)⟩,
 ⟨some 102, none, .bin .sub (.tmp 100) (.tmp 101)⟩,
 ⟨some 103, none, .sls (.tmp 99) (some (.tmp 102)) none⟩,
 ⟨some 104, none, .mov (.tmp 1)⟩,
 ⟨some 105, none, .bad⟩,
 ⟨some 106, none, .call (.func 133) [(.tmp 103), (.tmp 105)]⟩,
 ⟨some 13, none, .mov (.tmp 106)⟩])
 (.seq (.ops [⟨some 107, none, .mov (.tmp 13)⟩,
 ⟨some 108, none, .bin .geq (.tmp 107) (.const (.int .i64 0))⟩])
 (.cond (.tmp 108)
 (.seq (.ops [⟨some 109, none, .mov (.tmp 9)⟩,
 ⟨some 110, none, .mov (.tmp 13)⟩,
 ⟨some 111, none, .bin .add (.tmp 109) (.tmp 110)⟩,
 ⟨some 112, none, .mov (.tmp 8)⟩,
 ⟨some 113, none, .bin .sub (.tmp 111) (.tmp 112)⟩,
 ⟨some 4, none, .mov (.tmp 113)⟩])
 .ret)
 .skip)))
 (.scope (.seq (.ops [⟨some 114, none, .mov (.tmp 7)⟩,
 ⟨some 115, none, .mov (.tmp 8)⟩,
 ⟨some 116, none, .ids (.tmp 114) (.tmp 115)⟩,
 ⟨some 14, none, .mov (.tmp 116)⟩])
 (.seq (.ops [⟨some 117, none, .mov (.tmp 7)⟩,
 ⟨some 118, none, .mov (.tmp 8)⟩,
 ⟨some 119, none, .bin .sub (.tmp 118) (.const (.int .i64 1))⟩,
 ⟨some 120, none, .ids (.tmp 117) (.tmp 119)⟩,
 ⟨some 15, none, .mov (.tmp 120)⟩])
 (.seq (.label 2)
 (.block 5 (.loop (.seq (.seq (.ops [⟨some 121, none, .mov (.tmp 9)⟩,
 ⟨some 122, none, .mov (.tmp 0)⟩,
 ⟨some 123, none, .lns (.tmp 122)⟩,
 ⟨some 124, none, .bin .lss (.tmp 121) (.tmp 123)⟩])
 (.cond (.tmp 124)
 .skip
 (.exit 5)))
 (.seq (.block 6 (.seq (.ops [⟨some 127, none, .mov (.tmp 0)⟩,
 ⟨some 128, none, .mov (.tmp 9)⟩,
 ⟨some 129, none, .ids (.tmp 127) (.tmp 128)⟩,
 ⟨some 130, none, .mov (.tmp 14)⟩,
 ⟨some 131, none, .bin .eql (.tmp 129) (.tmp 130)⟩,
 ⟨some 132, none, .mov (.tmp 131)⟩,
 ⟨some 133, (some (132, true)), .mov (.tmp 0)⟩,
 ⟨some 134, (some (132, true)), .mov (.tmp 9)⟩,
 ⟨some 135, (some (132, true)), .bin .sub (.tmp 134) (.const (.int .i64 1))⟩,
 ⟨some 136, (some (132, true)), .ids (.tmp 133) (.tmp 135)⟩,
 ⟨some 137, (some (132, true)), .mov (.tmp 15)⟩,
 ⟨some 138, (some (132, true)), .bin .eql (.tmp 136) (.tmp 137)⟩,
 ⟨some 139, none, .pick (.tmp 132) (.tmp 138) (.const (.bool false))⟩])
 (.cond (.tmp 139)
 (.seq (.seq (.ops [⟨some 16, none, .mov (.const (.int .i64 2))⟩])
 (.block 7 (.loop (.seq (.seq (.ops [⟨some 140, none, .mov (.tmp 16)⟩,
 ⟨some 141, none, .mov (.tmp 7)⟩,
 ⟨some 142, none, .lns (.tmp 141)⟩,
 ⟨some 143, none, .bin .lss (.tmp 140) (.tmp 142)⟩])
 (.cond (.tmp 143)
 .skip
 (.exit 7)))
 (.seq (.block 8 (.seq (.draw [⟨some 146, none, .mov (.tmp 0)⟩,
 ⟨some 147, none, .mov (.tmp 9)⟩,
 ⟨some 148, none, .mov (.tmp 16)⟩,
 ⟨some 149, none, .bin .sub (.tmp 147) (.tmp 148)⟩,
 ⟨some 150, none, .ids (.tmp 146) (.tmp 149)⟩,
 ⟨some 151, none, .mov (.tmp 7)⟩,
 ⟨some 152, none, .mov (.tmp 8)⟩,
 ⟨some 153, none, .mov (.tmp 16)⟩,
 ⟨some 154, none, .bin .sub (.tmp 152) (.tmp 153)⟩,
 ⟨some 155, none, .ids (.tmp 151) (.tmp 154)⟩,
 ⟨some 156, none, .bin .neq (.tmp 150) (.tmp 155)⟩] [(0, 1), (0, 2), (1, 2), (0, 3), (0, 5), (1, 5), (2, 5), (3, 5), (4, 5), (0, 6), (1, 6), (2, 6), (3, 6), (4, 6), (5, 6), (0, 7), (1, 7), (2, 7), (3, 7), (4, 7), (5, 7), (6, 7), (0, 8), (1, 8), (2, 8), (3, 8), (4, 8), (5, 8), (0, 9), (1, 9), (2, 9), (3, 9), (4, 9)])
 (.cond (.tmp 156)
 (.exit 6)
 .skip)))
 (.ops [⟨some 144, none, .mov (.tmp 16)⟩,
 ⟨some 145, none, .bin .add (.tmp 144) (.const (.int .i64 1))⟩,
 ⟨some 16, none, .mov (.tmp 145)⟩]))))))
 (.seq (.ops [⟨some 157, none, .mov (.tmp 9)⟩,
 ⟨some 158, none, .mov (.tmp 8)⟩,
 ⟨some 159, none, .bin .sub (.tmp 157) (.tmp 158)⟩,
 ⟨some 4, none, .mov (.tmp 159)⟩])
 .ret))
 .skip)))
 (.ops [⟨some 125, none, .mov (.tmp 9)⟩,
 ⟨some 126, none, .bin .add (.tmp 125) (.const (.int .i64 1))⟩,
 ⟨some 9, none, .mov (.tmp 126)⟩]))))))))))
 (.seq (.ops [⟨some 4, none, .mov (.const (.int .i64 (-1)))⟩])
 .ret))))))))))))))))))⟩
theorem ok122 : compF Tryz.prog Tryz.f122 = some c122 := by kernel_rfl
def c123 : CF := ⟨5, [.tmp 2],
 (.seq (.ops [⟨some 2, none, .mov (.const (.bool false))⟩])
 (.seq (.ops [⟨some 3, none, .mov (.tmp 0)⟩,
 ⟨some 4, none, .bin .gtr (.tmp 3) (.const (.int .i64 8))⟩,
 ⟨some 2, none, .mov (.tmp 4)⟩])
 .ret))⟩
theorem ok123 : compF Tryz.prog Tryz.f123 = some c123 := by kernel_rfl
def c124 : CF := ⟨25, [.tmp 2],
 (.seq (.ops [⟨some 2, none, .mov (.const (.int .i64 0))⟩])
 (.seq (.block 0 (.seq (.ops [⟨some 4, none, .mov (.tmp 0)⟩,
 ⟨some 5, none, .bin .lss (.tmp 4) (.const (.int .i32 0))⟩,
 ⟨some 3, none, .mov (.tmp 5)⟩])
 (.cond (.tmp 3)
 (.seq (.ops [⟨some 2, none, .mov (.const (.int .i64 (-1)))⟩])
 .ret)
 (.seq (.ops [⟨some 7, none, .mov (.tmp 0)⟩,
 ⟨some 8, none, .bin .leq (.tmp 7) (.const (.int .i32 127))⟩,
 ⟨some 6, none, .mov (.tmp 8)⟩])
 (.cond (.tmp 6)
 (.seq (.ops [⟨some 2, none, .mov (.const (.int .i64 1))⟩])
 .ret)
 (.seq (.ops [⟨some 10, none, .mov (.tmp 0)⟩,
 ⟨some 11, none, .bin .leq (.tmp 10) (.const (.int .i32 2047))⟩,
 ⟨some 9, none, .mov (.tmp 11)⟩])
 (.cond (.tmp 9)
 (.seq (.ops [⟨some 2, none, .mov (.const (.int .i64 2))⟩])
 .ret)
 (.seq (.ops [⟨some 13, none, .mov (.tmp 0)⟩,
 ⟨some 14, none, .bin .leq (.const (.int .i32 55296)) (.tmp 13)⟩,
 ⟨some 15, none, .mov (.tmp 14)⟩,
 ⟨some 16, (some (15, true)), .mov (.tmp 0)⟩,
 ⟨some 17, (some (15, true)), .bin .leq (.tmp 16) (.const (.int .i32 57343))⟩,
 ⟨some 18, none, .pick (.tmp 15) (.tmp 17) (.const (.bool false))⟩,
 ⟨some 12, none, .mov (.tmp 18)⟩])
 (.cond (.tmp 12)
 (.seq (.ops [⟨some 2, none, .mov (.const (.int .i64 (-1)))⟩])
 .ret)
 (.seq (.ops [⟨some 20, none, .mov (.tmp 0)⟩,
 ⟨some 21, none, .bin .leq (.tmp 20) (.const (.int .i32 65535))⟩,
 ⟨some 19, none, .mov (.tmp 21)⟩])
 (.cond (.tmp 19)
 (.seq (.ops [⟨some 2, none, .mov (.const (.int .i64 3))⟩])
 .ret)
 (.seq (.ops [⟨some 23, none, .mov (.tmp 0)⟩,
 ⟨some 24, none, .bin .leq (.tmp 23) (.const (.int .i32 1114111))⟩,
 ⟨some 22, none, .mov (.tmp 24)⟩])
 (.cond (.tmp 22)
 (.seq (.ops [⟨some 2, none, .mov (.const (.int .i64 4))⟩])
 .ret)
 .skip)))))))))))))
 (.seq (.ops [⟨some 2, none, .mov (.const (.int .i64 (-1)))⟩])
 .ret)))⟩
theorem ok124 : compF Tryz.prog Tryz.f124 = some c124 := by kernel_rfl
def c125 : CF := ⟨37, [.tmp 4, .tmp 5, .tmp 6],
 (.seq (.ops [⟨some 4, none, .mov (.const (.int .i32 0))⟩,
 ⟨some 5, none, .mov (.const (.int .i64 0))⟩,
 ⟨some 6, none, .mov (.const (.int .i64 0))⟩])
 (.seq (.seq (.ops [⟨some 7, none, .mov (.tmp 1)⟩,
 ⟨some 8, none, .bin .lss (.tmp 7) (.const (.int .i64 0))⟩,
 ⟨some 9, none, .mov (.tmp 8)⟩,
 ⟨some 10, (some (9, false)), .mov (.tmp 1)⟩,
 ⟨some 11, (some (9, false)), .mov (.tmp 0)⟩,
 ⟨some 12, (some (9, false)), .lnl (.tmp 11)⟩,
 ⟨some 13, (some (9, false)), .bin .geq (.tmp 10) (.tmp 12)⟩,
 ⟨some 14, none, .pick (.tmp 9) (.const (.bool true)) (.tmp 13)⟩])
 (.cond (.tmp 14)
 (.seq (.ops [⟨some 4, none, .mov (.const (.int .i32 0))⟩,
 ⟨some 5, none, .mov (.const (.int .i64 0))⟩,
 ⟨some 6, none, .mov (.const (.int .i64 7))⟩])
 .ret)
 .skip))
 (.seq (.ops [⟨some 16, none, .mov (.tmp 0)⟩,
 ⟨some 17, none, .mov (.tmp 1)⟩,
 ⟨some 18, none, .sl 1 (.tmp 16) (some (.tmp 17)) none none⟩,
 ⟨some 19, none, .call (.func 134) [(.tmp 18)]⟩,
 ⟨some 15, none, .mov (.tmp 19)⟩,
 ⟨some 20, none, .ext (.tmp 15) 0⟩,
 ⟨some 21, none, .ext (.tmp 15) 1⟩,
 ⟨some 4, none, .mov (.tmp 20)⟩,
 ⟨some 5, none, .mov (.tmp 21)⟩])
 (.seq (.block 0 (.seq (.ops [⟨some 23, none, .mov (.tmp 4)⟩,
 ⟨some 24, none, .bin .neq (.tmp 23) (.const (.int .i32 65533))⟩,
 ⟨some 25, none, .mov (.tmp 24)⟩,
 ⟨some 26, (some (25, false)), .mov (.tmp 5)⟩,
 ⟨some 27, (some (25, false)), .bin .gtr (.tmp 26) (.const (.int .i64 1))⟩,
 ⟨some 28, none, .pick (.tmp 25) (.const (.bool true)) (.tmp 27)⟩,
 ⟨some 22, none, .mov (.tmp 28)⟩])
 (.cond (.tmp 22)
 (.seq (.ops [⟨some 29, none, .mov (.tmp 4)⟩,
 ⟨some 30, none, .mov (.tmp 5)⟩,
 ⟨some 4, none, .mov (.tmp 29)⟩,
 ⟨some 5, none, .mov (.tmp 30)⟩,
 ⟨some 6, none, .mov (.const (.int .i64 0))⟩])
 .ret)
 (.seq (.ops [⟨some 32, none, .mov (.tmp 0)⟩,
 ⟨some 33, none, .mov (.tmp 1)⟩,
 ⟨some 34, none, .sl 1 (.tmp 32) (some (.tmp 33)) none none⟩,
 ⟨some 35, none, .call (.func 135) [(.tmp 34)]⟩,
 ⟨some 36, none, .un .not (.tmp 35)⟩,
 ⟨some 31, none, .mov (.tmp 36)⟩])
 (.cond (.tmp 31)
 (.seq (.ops [⟨some 4, none, .mov (.const (.int .i32 0))⟩,
 ⟨some 5, none, .mov (.const (.int .i64 0))⟩,
 ⟨some 6, none, .mov (.const (.int .i64 320))⟩])
 .ret)
 .skip)))))
 (.seq (.ops [⟨some 4, none, .mov (.const (.int .i32 0))⟩,
 ⟨some 5, none, .mov (.const (.int .i64 0))⟩,
 ⟨some 6, none, .mov (.const (.int .i64 6))⟩])
 .ret)))))⟩
theorem ok125 : compF Tryz.prog Tryz.f125 = some c125 := by kernel_rfl
def c126 : CF := ⟨30, [],
 (.seq (.ops [⟨some 3, none, .mov (.const (.int .i64 0))⟩])
 (.block 0 (.loop (.seq (.seq (.ops [⟨some 7, none, .mov (.tmp 3)⟩,
 ⟨some 8, none, .ld1 (.tmp 1)⟩,
 ⟨some 9, none, .lnl (.tmp 8)⟩,
 ⟨some 10, none, .bin .lss (.tmp 7) (.tmp 9)⟩])
 (.cond (.tmp 10)
 .skip
 (.exit 0)))
 (.block 1 (.seq (.ops [⟨some 12, none, .ld1 (.tmp 1)⟩,
 ⟨some 13, none, .mov (.tmp 3)⟩,
 ⟨some 14, none, .call (.func 125) [(.tmp 12), (.tmp 13)]⟩,
 ⟨some 11, none, .mov (.tmp 14)⟩,
 ⟨some 15, none, .ext (.tmp 11) 0⟩,
 ⟨some 16, none, .ext (.tmp 11) 1⟩,
 ⟨some 17, none, .ext (.tmp 11) 2⟩,
 ⟨some 4, none, .mov (.tmp 15)⟩,
 ⟨some 5, none, .mov (.tmp 16)⟩,
 ⟨some 6, none, .mov (.tmp 17)⟩])
 (.seq (.seq (.ops [⟨some 18, none, .mov (.tmp 6)⟩,
 ⟨some 19, none, .bin .neq (.tmp 18) (.const (.int .i64 0))⟩,
 ⟨some 20, none, .mov (.tmp 19)⟩,
 ⟨some 21, (some (20, false)), .mov (.tmp 0)⟩,
 ⟨some 22, (some (20, false)), .mov (.tmp 3)⟩,
 ⟨some 23, (some (20, false)), .mov (.tmp 4)⟩,
 ⟨some 24, (some (20, false)), .call (.tmp 21) [(.tmp 22), (.tmp 23)]⟩,
 ⟨some 25, (some (20, false)), .un .not (.tmp 24)⟩,
 ⟨some 26, none, .pick (.tmp 20) (.const (.bool true)) (.tmp 25)⟩])
 (.cond (.tmp 26)
 .ret
 .skip))
 (.ops [⟨some 27, none, .mov (.tmp 3)⟩,
 ⟨some 28, none, .mov (.tmp 5)⟩,
 ⟨some 29, none, .bin .add (.tmp 27) (.tmp 28)⟩,
 ⟨some 3, none, .mov (.tmp 29)⟩]))))))))⟩
theorem ok126 : compF Tryz.prog Tryz.f126 = some c126 := by kernel_rfl
def c127 : CF := ⟨17, [.tmp 2],
 (.seq (.ops [⟨some 2, none, .mov (.const (.bool false))⟩])
 (.seq (.block 0 (.seq (.ops [⟨some 4, none, .mov (.tmp 0)⟩,
 ⟨some 5, none, .bin .leq (.const (.int .i32 0)) (.tmp 4)⟩,
 ⟨some 6, none, .mov (.tmp 5)⟩,
 ⟨some 7, (some (6, true)), .mov (.tmp 0)⟩,
 ⟨some 8, (some (6, true)), .bin .lss (.tmp 7) (.const (.int .i32 55296))⟩,
 ⟨some 9, none, .pick (.tmp 6) (.tmp 8) (.const (.bool false))⟩,
 ⟨some 3, none, .mov (.tmp 9)⟩])
 (.cond (.tmp 3)
 (.seq (.ops [⟨some 2, none, .mov (.const (.bool true))⟩])
 .ret)
 (.seq (.ops [⟨some 11, none, .mov (.tmp 0)⟩,
 ⟨some 12, none, .bin .lss (.const (.int .i32 57343)) (.tmp 11)⟩,
 ⟨some 13, none, .mov (.tmp 12)⟩,
 ⟨some 14, (some (13, true)), .mov (.tmp 0)⟩,
 ⟨some 15, (some (13, true)), .bin .leq (.tmp 14) (.const (.int .i32 1114111))⟩,
 ⟨some 16, none, .pick (.tmp 13) (.tmp 15) (.const (.bool false))⟩,
 ⟨some 10, none, .mov (.tmp 16)⟩])
 (.cond (.tmp 10)
 (.seq (.ops [⟨some 2, none, .mov (.const (.bool true))⟩])
 .ret)
 .skip)))))
 (.seq (.ops [⟨some 2, none, .mov (.const (.bool false))⟩])
 .ret)))⟩
theorem ok127 : compF Tryz.prog Tryz.f127 = some c127 := by kernel_rfl
def c128 : CF := ⟨28, [.tmp 8, .tmp 9],
 (.seq (.ops [⟨some 8, none, .mov (.const (.int .i64 0))⟩,
 ⟨some 9, none, .mov (.const (.int .i64 0))⟩])
 (.seq (.seq (.draw [⟨some 10, none, .mov (.tmp 0)⟩,
 ⟨some 11, none, .mov (.tmp 2)⟩,
 ⟨some 12, none, .iad 1 (.tmp 10) (.tmp 11)⟩,
 ⟨some 13, none, .ld1 (.tmp 12)⟩,
 ⟨some 14, none, .mov (.tmp 0)⟩,
 ⟨some 15, none, .mov (.tmp 1)⟩,
 ⟨some 16, none, .iad 1 (.tmp 14) (.tmp 15)⟩,
 ⟨some 17, none, .ld1 (.tmp 16)⟩,
 ⟨some 18, none, .call (.func 82) [(.tmp 13), (.tmp 17)]⟩] [(0, 1), (0, 4), (1, 4), (2, 4), (3, 4), (0, 5), (1, 5), (2, 5), (3, 5), (4, 5), (0, 6), (1, 6), (2, 6), (3, 6), (0, 7), (1, 7), (2, 7), (3, 7)])
 (.cond (.tmp 18)
 (.seq (.ops [⟨some 19, none, .mov (.tmp 3)⟩,
 ⟨some 20, none, .nilck (.tmp 19)⟩,
 ⟨some 21, none, .ld1 (.tmp 20)⟩,
 ⟨some 22, none, .bin .add (.tmp 21) (.const (.int .i64 1))⟩,
 ⟨some 23, none, .nilck (.tmp 19)⟩,
 ⟨none, none, .st 1 (.tmp 23) (.tmp 22)⟩])
 (.seq (.ops [⟨some 24, none, .mov (.tmp 2)⟩,
 ⟨some 25, none, .mov (.tmp 1)⟩,
 ⟨some 8, none, .mov (.tmp 24)⟩,
 ⟨some 9, none, .mov (.tmp 25)⟩])
 .ret))
 .skip))
 (.seq (.ops [⟨some 26, none, .mov (.tmp 1)⟩,
 ⟨some 27, none, .mov (.tmp 2)⟩,
 ⟨some 8, none, .mov (.tmp 26)⟩,
 ⟨some 9, none, .mov (.tmp 27)⟩])
 .ret)))⟩
theorem ok128 : compF Tryz.prog Tryz.f128 = some c128 := by kernel_rfl
def c129 : CF := ⟨19, [.tmp 4],
 (.seq (.ops [⟨some 4, none, .mov (.const (.int .i64 0))⟩])
 (.seq (.seq (.ops [⟨some 6, none, .mov (.tmp 0)⟩,
 ⟨some 7, none, .lnl (.tmp 6)⟩,
 ⟨some 8, none, .mov (.const (.int .i64 0))⟩])
 (.block 0 (.loop (.seq (.ops [⟨some 9, none, .bin .lss (.tmp 8) (.tmp 7)⟩])
 (.seq (.cond (.tmp 9)
 .skip
 (.exit 0))
 (.seq (.block 1 (.seq (.ops [⟨some 10, none, .mov (.tmp 8)⟩,
 ⟨some 5, none, .mov (.tmp 10)⟩])
 (.seq (.ops [⟨some 11, none, .mov (.tmp 1)⟩,
 ⟨some 12, none, .mov (.tmp 0)⟩,
 ⟨some 13, none, .mov (.tmp 5)⟩,
 ⟨some 14, none, .iad 1 (.tmp 12) (.tmp 13)⟩,
 ⟨some 15, none, .ld1 (.tmp 14)⟩,
 ⟨some 16, none, .bin .eql (.tmp 11) (.tmp 15)⟩])
 (.cond (.tmp 16)
 (.seq (.ops [⟨some 17, none, .mov (.tmp 5)⟩,
 ⟨some 4, none, .mov (.tmp 17)⟩])
 .ret)
 .skip))))
 (.ops [⟨some 18, none, .bin .add (.tmp 8) (.const (.int .i64 1))⟩,
 ⟨some 8, none, .mov (.tmp 18)⟩])))))))
 (.seq (.ops [⟨some 4, none, .mov (.const (.int .i64 (-1)))⟩])
 .ret)))⟩
theorem ok129 : compF Tryz.prog Tryz.f129 = some c129 := by kernel_rfl
def c130 : CF := ⟨117, [.tmp 2, .tmp 3],
 (.seq (.ops [⟨some 2, none, .mov (.const (.int .i32 0))⟩,
 ⟨some 3, none, .mov (.const (.int .i64 0))⟩])
 (.seq (.ops [⟨some 13, none, .mov (.tmp 0)⟩,
 ⟨some 14, none, .lns (.tmp 13)⟩,
 ⟨some 4, none, .mov (.tmp 14)⟩])
 (.seq (.seq (.ops [⟨some 15, none, .mov (.tmp 4)⟩,
 ⟨some 16, none, .bin .lss (.tmp 15) (.const (.int .i64 1))⟩])
 (.cond (.tmp 16)
 (.seq (.ops [⟨some 2, none, .mov (.const (.int .i32 65533))⟩,
 ⟨some 3, none, .mov (.const (.int .i64 0))⟩])
 .ret)
 .skip))
 (.seq (.ops [⟨some 17, none, .mov (.tmp 0)⟩,
 ⟨some 18, none, .ids (.tmp 17) (.const (.int .i64 0))⟩,
 ⟨some 5, none, .mov (.tmp 18)⟩])
 (.seq (.ops [⟨some 19, none, .mov (.tmp 5)⟩,
 ⟨some 20, none, .iaa 256 1 (.global 1) (.tmp 19)⟩,
 ⟨some 21, none, .ld1 (.tmp 20)⟩,
 ⟨some 6, none, .mov (.tmp 21)⟩])
 (.seq (.seq (.ops [⟨some 22, none, .mov (.tmp 6)⟩,
 ⟨some 23, none, .bin .geq (.tmp 22) (.const (.int .u8 240))⟩])
 (.cond (.tmp 23)
 (.seq (.ops [⟨some 24, none, .mov (.tmp 6)⟩,
 ⟨some 25, none, .cvi .i32 (.tmp 24)⟩,
 ⟨some 26, none, .bin .shl (.tmp 25) (.const (.int .u64 31))⟩,
 ⟨some 27, none, .bin .shr (.tmp 26) (.const (.int .u64 31))⟩,
 ⟨some 7, none, .mov (.tmp 27)⟩])
 (.seq (.ops [⟨some 28, none, .mov (.tmp 0)⟩,
 ⟨some 29, none, .ids (.tmp 28) (.const (.int .i64 0))⟩,
 ⟨some 30, none, .cvi .i32 (.tmp 29)⟩,
 ⟨some 31, none, .mov (.tmp 7)⟩,
 ⟨some 32, none, .bin .andNot (.tmp 30) (.tmp 31)⟩,
 ⟨some 33, none, .mov (.tmp 7)⟩,
 ⟨some 34, none, .bin .and (.const (.int .i32 65533)) (.tmp 33)⟩,
 ⟨some 35, none, .bin .or (.tmp 32) (.tmp 34)⟩,
 ⟨some 2, none, .mov (.tmp 35)⟩,
 ⟨some 3, none, .mov (.const (.int .i64 1))⟩])
 .ret))
 .skip))
 (.seq (.ops [⟨some 36, none, .mov (.tmp 6)⟩,
 ⟨some 37, none, .bin .and (.tmp 36) (.const (.int .u8 7))⟩,
 ⟨some 38, none, .cvi .i64 (.tmp 37)⟩,
 ⟨some 8, none, .mov (.tmp 38)⟩])
 (.seq (.ops [⟨some 39, none, .mov (.tmp 6)⟩,
 ⟨some 40, none, .bin .shr (.tmp 39) (.const (.int .u64 4))⟩,
 ⟨some 41, none, .iaa 16 2 (.global 2) (.tmp 40)⟩,
 ⟨some 42, none, .ld 2 (.tmp 41)⟩,
 ⟨some 9, none, .newz [(.int .u8 0), (.int .u8 0)]⟩,
 ⟨none, none, .st 2 (.tmp 9) (.tmp 42)⟩])
 (.seq (.seq (.ops [⟨some 43, none, .mov (.tmp 4)⟩,
 ⟨some 44, none, .mov (.tmp 8)⟩,
 ⟨some 45, none, .bin .lss (.tmp 43) (.tmp 44)⟩])
 (.cond (.tmp 45)
 (.seq (.ops [⟨some 2, none, .mov (.const (.int .i32 65533))⟩,
 ⟨some 3, none, .mov (.const (.int .i64 1))⟩])
 .ret)
 .skip))
 (.seq (.ops [⟨some 46, none, .mov (.tmp 0)⟩,
 ⟨some 47, none, .ids (.tmp 46) (.const (.int .i64 1))⟩,
 ⟨some 10, none, .mov (.tmp 47)⟩])
 (.seq (.seq (.ops [⟨some 48, none, .mov (.tmp 10)⟩,
 ⟨some 49, none, .fad (.tmp 9) 0⟩,
 ⟨some 50, none, .ld1 (.tmp 49)⟩,
 ⟨some 51, none, .bin .lss (.tmp 48) (.tmp 50)⟩,
 ⟨some 52, none, .mov (.tmp 51)⟩,
 ⟨some 53, (some (52, false)), .fad (.tmp 9) 1⟩,
 ⟨some 54, (some (52, false)), .ld1 (.tmp 53)⟩,
 ⟨some 55, (some (52, false)), .mov (.tmp 10)⟩,
 ⟨some 56, (some (52, false)), .bin .lss (.tmp 54) (.tmp 55)⟩,
 ⟨some 57, none, .pick (.tmp 52) (.const (.bool true)) (.tmp 56)⟩])
 (.cond (.tmp 57)
 (.seq (.ops [⟨some 2, none, .mov (.const (.int .i32 65533))⟩,
 ⟨some 3, none, .mov (.const (.int .i64 1))⟩])
 .ret)
 .skip))
 (.seq (.seq (.ops [⟨some 58, none, .mov (.tmp 8)⟩,
 ⟨some 59, none, .bin .leq (.tmp 58) (.const (.int .i64 2))⟩])
 (.cond (.tmp 59)
 (.seq (.ops [⟨some 60, none, .mov (.tmp 5)⟩,
 ⟨some 61, none, .bin .and (.tmp 60) (.const (.int .u8 31))⟩,
 ⟨some 62, none, .cvi .i32 (.tmp 61)⟩,
 ⟨some 63, none, .bin .shl (.tmp 62) (.const (.int .u64 6))⟩,
 ⟨some 64, none, .mov (.tmp 10)⟩,
 ⟨some 65, none, .bin .and (.tmp 64) (.const (.int .u8 63))⟩,
 ⟨some 66, none, .cvi .i32 (.tmp 65)⟩,
 ⟨some 67, none, .bin .or (.tmp 63) (.tmp 66)⟩,
 ⟨some 2, none, .mov (.tmp 67)⟩,
 ⟨some 3, none, .mov (.const (.int .i64 2))⟩])
 .ret)
 .skip))
 (.seq (.ops [⟨some 68, none, .mov (.tmp 0)⟩,
 ⟨some 69, none, .ids (.tmp 68) (.const (.int .i64 2))⟩,
 ⟨some 11, none, .mov (.tmp 69)⟩])
 (.seq (.seq (.ops [⟨some 70, none, .mov (.tmp 11)⟩,
 ⟨some 71, none, .bin .lss (.tmp 70) (.const (.int .u8 128))⟩,
 ⟨some 72, none, .mov (.tmp 71)⟩,
 ⟨some 73, (some (72, false)), .mov (.tmp 11)⟩,
 ⟨some 74, (some (72, false)), .bin .lss (.const (.int .u8 191)) (.tmp 73)⟩,
 ⟨some 75, none, .pick (.tmp 72) (.const (.bool true)) (.tmp 74)⟩])
 (.cond (.tmp 75)
 (.seq (.ops [⟨some 2, none, .mov (.const (.int .i32 65533))⟩,
 ⟨some 3, none, .mov (.const (.int .i64 1))⟩])
 .ret)
 .skip))
 (.seq (.seq (.ops [⟨some 76, none, .mov (.tmp 8)⟩,
 ⟨some 77, none, .bin .leq (.tmp 76) (.const (.int .i64 3))⟩])
 (.cond (.tmp 77)
 (.seq (.ops [⟨some 78, none, .mov (.tmp 5)⟩,
 ⟨some 79, none, .bin .and (.tmp 78) (.const (.int .u8 15))⟩,
 ⟨some 80, none, .cvi .i32 (.tmp 79)⟩,
 ⟨some 81, none, .bin .shl (.tmp 80) (.const (.int .u64 12))⟩,
 ⟨some 82, none, .mov (.tmp 10)⟩,
 ⟨some 83, none, .bin .and (.tmp 82) (.const (.int .u8 63))⟩,
 ⟨some 84, none, .cvi .i32 (.tmp 83)⟩,
 ⟨some 85, none, .bin .shl (.tmp 84) (.const (.int .u64 6))⟩,
 ⟨some 86, none, .bin .or (.tmp 81) (.tmp 85)⟩,
 ⟨some 87, none, .mov (.tmp 11)⟩,
 ⟨some 88, none, .bin .and (.tmp 87) (.const (.int .u8 63))⟩,
 ⟨some 89, none, .cvi .i32 (.tmp 88)⟩,
 ⟨some 90, none, .bin .or (.tmp 86) (.tmp 89)⟩,
 ⟨some 2, none, .mov (.tmp 90)⟩,
 ⟨some 3, none, .mov (.const (.int .i64 3))⟩])
 .ret)
 .skip))
 (.seq (.ops [⟨some 91, none, .mov (.tmp 0)⟩,
 ⟨some 92, none, .ids (.tmp 91) (.const (.int .i64 3))⟩,
 ⟨some 12, none, .mov (.tmp 92)⟩])
 (.seq (.seq (.ops [⟨some 93, none, .mov (.tmp 12)⟩,
 ⟨some 94, none, .bin .lss (.tmp 93) (.const (.int .u8 128))⟩,
 ⟨some 95, none, .mov (.tmp 94)⟩,
 ⟨some 96, (some (95, false)), .mov (.tmp 12)⟩,
 ⟨some 97, (some (95, false)), .bin .lss (.const (.int .u8 191)) (.tmp 96)⟩,
 ⟨some 98, none, .pick (.tmp 95) (.const (.bool true)) (.tmp 97)⟩])
 (.cond (.tmp 98)
 (.seq (.ops [⟨some 2, none, .mov (.const (.int .i32 65533))⟩,
 ⟨some 3, none, .mov (.const (.int .i64 1))⟩])
 .ret)
 .skip))
 (.seq (.ops [⟨some 99, none, .mov (.tmp 5)⟩,
 ⟨some 100, none, .bin .and (.tmp 99) (.const (.int .u8 7))⟩,
 ⟨some 101, none, .cvi .i32 (.tmp 100)⟩,
 ⟨some 102, none, .bin .shl (.tmp 101) (.const (.int .u64 18))⟩,
 ⟨some 103, none, .mov (.tmp 10)⟩,
 ⟨some 104, none, .bin .and (.tmp 103) (.const (.int .u8 63))⟩,
 ⟨some 105, none, .cvi .i32 (.tmp 104)⟩,
 ⟨some 106, none, .bin .shl (.tmp 105) (.const (.int .u64 12))⟩,
 ⟨some 107, none, .bin .or (.tmp 102) (.tmp 106)⟩,
 ⟨some 108, none, .mov (.tmp 11)⟩,
 ⟨some 109, none, .bin .and (.tmp 108) (.const (.int .u8 63))⟩,
 ⟨some 110, none, .cvi .i32 (.tmp 109)⟩,
 ⟨some 111, none, .bin .shl (.tmp 110) (.const (.int .u64 6))⟩,
 ⟨some 112, none, .bin .or (.tmp 107) (.tmp 111)⟩,
 ⟨some 113, none, .mov (.tmp 12)⟩,
 ⟨some 114, none, .bin .and (.tmp 113) (.const (.int .u8 63))⟩,
 ⟨some 115, none, .cvi .i32 (.tmp 114)⟩,
 ⟨some 116, none, .bin .or (.tmp 112) (.tmp 115)⟩,
 ⟨some 2, none, .mov (.tmp 116)⟩,
 ⟨some 3, none, .mov (.const (.int .i64 4))⟩])
 .ret))))))))))))))))))⟩
theorem ok130 : compF Tryz.prog Tryz.f130 = some c130 := by kernel_rfl
def c131 : CF := ⟨8, [.tmp 4],
 (.seq (.ops [⟨some 4, none, .mov (.const (.int .i64 0))⟩])
 (.seq (.ops [⟨some 5, none, .mov (.tmp 0)⟩,
 ⟨some 6, none, .mov (.tmp 1)⟩,
 ⟨some 7, none, .call (.func 136) [(.tmp 5), (.tmp 6)]⟩,
 ⟨some 4, none, .mov (.tmp 7)⟩])
 .ret))⟩
theorem ok131 : compF Tryz.prog Tryz.f131 = some c131 := by kernel_rfl
def c132 : CF := ⟨6, [.tmp 2],
 (.seq (.ops [⟨some 2, none, .mov (.const (.int .i64 0))⟩])
 (.seq (.ops [⟨some 3, none, .mov (.tmp 0)⟩,
 ⟨some 4, none, .bin .add (.tmp 3) (.const (.int .i64 16))⟩,
 ⟨some 5, none, .bin .quo (.tmp 4) (.const (.int .i64 8))⟩,
 ⟨some 2, none, .mov (.tmp 5)⟩])
 .ret))⟩
theorem ok132 : compF Tryz.prog Tryz.f132 = some c132 := by kernel_rfl
def c134 : CF := ⟨22, [.tmp 2, .tmp 3],
 (.seq (.ops [⟨some 2, none, .mov (.const (.int .i32 0))⟩,
 ⟨some 3, none, .mov (.const (.int .i64 0))⟩])
 (.seq (.seq (.ops [⟨some 6, none, .mov (.tmp 0)⟩,
 ⟨some 7, none, .lnl (.tmp 6)⟩,
 ⟨some 8, none, .mov (.const (.int .i64 0))⟩])
 (.block 0 (.loop (.seq (.ops [⟨some 9, none, .bin .lss (.tmp 8) (.tmp 7)⟩])
 (.seq (.cond (.tmp 9)
 .skip
 (.exit 0))
 (.seq (.block 1 (.seq (.ops [⟨some 10, none, .iad 1 (.tmp 6) (.tmp 8)⟩,
 ⟨some 11, none, .ld1 (.tmp 10)⟩,
 ⟨some 5, none, .mov (.tmp 11)⟩])
 (.seq (.seq (.ops [⟨some 12, none, .mov (.tmp 5)⟩,
 ⟨some 13, none, .bin .lss (.tmp 12) (.const (.int .u8 128))⟩])
 (.cond (.tmp 13)
 (.seq (.ops [⟨some 14, none, .mov (.tmp 5)⟩,
 ⟨some 15, none, .cvi .i32 (.tmp 14)⟩,
 ⟨some 2, none, .mov (.tmp 15)⟩,
 ⟨some 3, none, .mov (.const (.int .i64 1))⟩])
 .ret)
 .skip))
 (.exit 0))))
 (.ops [⟨some 16, none, .bin .add (.tmp 8) (.const (.int .i64 1))⟩,
 ⟨some 8, none, .mov (.tmp 16)⟩])))))))
 (.seq (.ops [⟨some 18, none, .mov (.tmp 0)⟩,
 ⟨some 19, none, .call (.func 137) [(.tmp 18)]⟩,
 ⟨some 17, none, .mov (.tmp 19)⟩,
 ⟨some 20, none, .ext (.tmp 17) 0⟩,
 ⟨some 21, none, .ext (.tmp 17) 1⟩,
 ⟨some 2, none, .mov (.tmp 20)⟩,
 ⟨some 3, none, .mov (.tmp 21)⟩])
 .ret)))⟩
theorem ok134 : compF Tryz.prog Tryz.f134 = some c134 := by kernel_rfl
def c135 : CF := ⟨56, [.tmp 2],
 (.seq (.ops [⟨some 2, none, .mov (.const (.bool false))⟩])
 (.seq (.ops [⟨some 6, none, .mov (.tmp 0)⟩,
 ⟨some 7, none, .lnl (.tmp 6)⟩,
 ⟨some 3, none, .mov (.tmp 7)⟩])
 (.seq (.seq (.ops [⟨some 8, none, .mov (.tmp 3)⟩,
 ⟨some 9, none, .bin .eql (.tmp 8) (.const (.int .i64 0))⟩])
 (.cond (.tmp 9)
 (.seq (.ops [⟨some 2, none, .mov (.const (.bool false))⟩])
 .ret)
 .skip))
 (.seq (.ops [⟨some 10, none, .mov (.tmp 0)⟩,
 ⟨some 11, none, .iad 1 (.tmp 10) (.const (.int .i64 0))⟩,
 ⟨some 12, none, .ld1 (.tmp 11)⟩,
 ⟨some 13, none, .iaa 256 1 (.global 1) (.tmp 12)⟩,
 ⟨some 14, none, .ld1 (.tmp 13)⟩,
 ⟨some 4, none, .mov (.tmp 14)⟩])
 (.seq (.seq (.ops [⟨some 15, none, .mov (.tmp 3)⟩,
 ⟨some 16, none, .mov (.tmp 4)⟩,
 ⟨some 17, none, .bin .and (.tmp 16) (.const (.int .u8 7))⟩,
 ⟨some 18, none, .cvi .i64 (.tmp 17)⟩,
 ⟨some 19, none, .bin .geq (.tmp 15) (.tmp 18)⟩])
 (.cond (.tmp 19)
 (.seq (.ops [⟨some 2, none, .mov (.const (.bool true))⟩])
 .ret)
 .skip))
 (.seq (.ops [⟨some 20, none, .mov (.tmp 4)⟩,
 ⟨some 21, none, .bin .shr (.tmp 20) (.const (.int .u64 4))⟩,
 ⟨some 22, none, .iaa 16 2 (.global 2) (.tmp 21)⟩,
 ⟨some 23, none, .ld 2 (.tmp 22)⟩,
 ⟨some 5, none, .newz [(.int .u8 0), (.int .u8 0)]⟩,
 ⟨none, none, .st 2 (.tmp 5) (.tmp 23)⟩])
 (.seq (.seq (.draw [⟨some 24, none, .mov (.tmp 3)⟩,
 ⟨some 25, none, .bin .gtr (.tmp 24) (.const (.int .i64 1))⟩,
 ⟨some 26, none, .mov (.tmp 25)⟩,
 ⟨some 27, (some (26, true)), .mov (.tmp 0)⟩,
 ⟨some 28, (some (26, true)), .iad 1 (.tmp 27) (.const (.int .i64 1))⟩,
 ⟨some 29, (some (26, true)), .ld1 (.tmp 28)⟩,
 ⟨some 30, (some (26, true)), .fad (.tmp 5) 0⟩,
 ⟨some 31, (some (26, true)), .ld1 (.tmp 30)⟩,
 ⟨some 32, (some (26, true)), .bin .lss (.tmp 29) (.tmp 31)⟩,
 ⟨some 33, (some (26, true)), .mov (.tmp 32)⟩,
 ⟨some 34, (some (33, false)), .fad (.tmp 5) 1⟩,
 ⟨some 35, (some (33, false)), .ld1 (.tmp 34)⟩,
 ⟨some 36, (some (33, false)), .mov (.tmp 0)⟩,
 ⟨some 37, (some (33, false)), .iad 1 (.tmp 36) (.const (.int .i64 1))⟩,
 ⟨some 38, (some (33, false)), .ld1 (.tmp 37)⟩,
 ⟨some 39, (some (33, false)), .bin .lss (.tmp 35) (.tmp 38)⟩,
 ⟨some 40, (some (26, true)), .pick (.tmp 33) (.const (.bool true)) (.tmp 39)⟩,
 ⟨some 41, none, .pick (.tmp 26) (.tmp 40) (.const (.bool false))⟩] [(3, 6), (4, 6), (5, 6), (3, 7), (4, 7), (5, 7), (10, 12), (11, 12), (10, 13), (11, 13), (10, 14), (11, 14)])
 (.cond (.tmp 41)
 (.seq (.ops [⟨some 2, none, .mov (.const (.bool true))⟩])
 .ret)
 (.seq (.ops [⟨some 42, none, .mov (.tmp 3)⟩,
 ⟨some 43, none, .bin .gtr (.tmp 42) (.const (.int .i64 2))⟩,
 ⟨some 44, none, .mov (.tmp 43)⟩,
 ⟨some 45, (some (44, true)), .mov (.tmp 0)⟩,
 ⟨some 46, (some (44, true)), .iad 1 (.tmp 45) (.const (.int .i64 2))⟩,
 ⟨some 47, (some (44, true)), .ld1 (.tmp 46)⟩,
 ⟨some 48, (some (44, true)), .bin .lss (.tmp 47) (.const (.int .u8 128))⟩,
 ⟨some 49, (some (44, true)), .mov (.tmp 48)⟩,
 ⟨some 50, (some (49, false)), .mov (.tmp 0)⟩,
 ⟨some 51, (some (49, false)), .iad 1 (.tmp 50) (.const (.int .i64 2))⟩,
 ⟨some 52, (some (49, false)), .ld1 (.tmp 51)⟩,
 ⟨some 53, (some (49, false)), .bin .lss (.const (.int .u8 191)) (.tmp 52)⟩,
 ⟨some 54, (some (44, true)), .pick (.tmp 49) (.const (.bool true)) (.tmp 53)⟩,
 ⟨some 55, none, .pick (.tmp 44) (.tmp 54) (.const (.bool false))⟩])
 (.cond (.tmp 55)
 (.seq (.ops [⟨some 2, none, .mov (.const (.bool true))⟩])
 .ret)
 .skip))))
 (.seq (.ops [⟨some 2, none, .mov (.const (.bool false))⟩])
 .ret))))))))⟩
theorem ok135 : compF Tryz.prog Tryz.f135 = some c135 := by kernel_rfl
def c136 : CF := ⟨8, [.tmp 4],
 (.seq (.ops [⟨some 4, none, .mov (.const (.int .i64 0))⟩])
 (.seq (.ops [⟨some 5, none, .mov (.tmp 0)⟩,
 ⟨some 6, none, .mov (.tmp 1)⟩,
 ⟨some 7, none, .call (.func 138) [(.tmp 5), (.tmp 6)]⟩,
 ⟨some 4, none, .mov (.tmp 7)⟩])
 .ret))⟩
theorem ok136 : compF Tryz.prog Tryz.f136 = some c136 := by kernel_rfl
def c137 : CF := ⟨122, [.tmp 2, .tmp 3],
 (.seq (.ops [⟨some 2, none, .mov (.const (.int .i32 0))⟩,
 ⟨some 3, none, .mov (.const (.int .i64 0))⟩])
 (.seq (.ops [⟨some 13, none, .mov (.tmp 0)⟩,
 ⟨some 14, none, .lnl (.tmp 13)⟩,
 ⟨some 4, none, .mov (.tmp 14)⟩])
 (.seq (.seq (.ops [⟨some 15, none, .mov (.tmp 4)⟩,
 ⟨some 16, none, .bin .lss (.tmp 15) (.const (.int .i64 1))⟩])
 (.cond (.tmp 16)
 (.seq (.ops [⟨some 2, none, .mov (.const (.int .i32 65533))⟩,
 ⟨some 3, none, .mov (.const (.int .i64 0))⟩])
 .ret)
 .skip))
 (.seq (.ops [⟨some 17, none, .mov (.tmp 0)⟩,
 ⟨some 18, none, .iad 1 (.tmp 17) (.const (.int .i64 0))⟩,
 ⟨some 19, none, .ld1 (.tmp 18)⟩,
 ⟨some 5, none, .mov (.tmp 19)⟩])
 (.seq (.ops [⟨some 20, none, .mov (.tmp 5)⟩,
 ⟨some 21, none, .iaa 256 1 (.global 1) (.tmp 20)⟩,
 ⟨some 22, none, .ld1 (.tmp 21)⟩,
 ⟨some 6, none, .mov (.tmp 22)⟩])
 (.seq (.seq (.ops [⟨some 23, none, .mov (.tmp 6)⟩,
 ⟨some 24, none, .bin .geq (.tmp 23) (.const (.int .u8 240))⟩])
 (.cond (.tmp 24)
 (.seq (.ops [⟨some 25, none, .mov (.tmp 6)⟩,
 ⟨some 26, none, .cvi .i32 (.tmp 25)⟩,
 ⟨some 27, none, .bin .shl (.tmp 26) (.const (.int .u64 31))⟩,
 ⟨some 28, none, .bin .shr (.tmp 27) (.const (.int .u64 31))⟩,
 ⟨some 7, none, .mov (.tmp 28)⟩])
 (.seq (.ops [⟨some 29, none, .mov (.tmp 0)⟩,
 ⟨some 30, none, .iad 1 (.tmp 29) (.const (.int .i64 0))⟩,
 ⟨some 31, none, .ld1 (.tmp 30)⟩,
 ⟨some 32, none, .cvi .i32 (.tmp 31)⟩,
 ⟨some 33, none, .mov (.tmp 7)⟩,
 ⟨some 34, none, .bin .andNot (.tmp 32) (.tmp 33)⟩,
 ⟨some 35, none, .mov (.tmp 7)⟩,
 ⟨some 36, none, .bin .and (.const (.int .i32 65533)) (.tmp 35)⟩,
 ⟨some 37, none, .bin .or (.tmp 34) (.tmp 36)⟩,
 ⟨some 2, none, .mov (.tmp 37)⟩,
 ⟨some 3, none, .mov (.const (.int .i64 1))⟩])
 .ret))
 .skip))
 (.seq (.ops [⟨some 38, none, .mov (.tmp 6)⟩,
 ⟨some 39, none, .bin .and (.tmp 38) (.const (.int .u8 7))⟩,
 ⟨some 40, none, .cvi .i64 (.tmp 39)⟩,
 ⟨some 8, none, .mov (.tmp 40)⟩])
 (.seq (.ops [⟨some 41, none, .mov (.tmp 6)⟩,
 ⟨some 42, none, .bin .shr (.tmp 41) (.const (.int .u64 4))⟩,
 ⟨some 43, none, .iaa 16 2 (.global 2) (.tmp 42)⟩,
 ⟨some 44, none, .ld 2 (.tmp 43)⟩,
 ⟨some 9, none, .newz [(.int .u8 0), (.int .u8 0)]⟩,
 ⟨none, none, .st 2 (.tmp 9) (.tmp 44)⟩])
 (.seq (.seq (.ops [⟨some 45, none, .mov (.tmp 4)⟩,
 ⟨some 46, none, .mov (.tmp 8)⟩,
 ⟨some 47, none, .bin .lss (.tmp 45) (.tmp 46)⟩])
 (.cond (.tmp 47)
 (.seq (.ops [⟨some 2, none, .mov (.const (.int .i32 65533))⟩,
 ⟨some 3, none, .mov (.const (.int .i64 1))⟩])
 .ret)
 .skip))
 (.seq (.ops [⟨some 48, none, .mov (.tmp 0)⟩,
 ⟨some 49, none, .iad 1 (.tmp 48) (.const (.int .i64 1))⟩,
 ⟨some 50, none, .ld1 (.tmp 49)⟩,
 ⟨some 10, none, .mov (.tmp 50)⟩])
 (.seq (.seq (.ops [⟨some 51, none, .mov (.tmp 10)⟩,
 ⟨some 52, none, .fad (.tmp 9) 0⟩,
 ⟨some 53, none, .ld1 (.tmp 52)⟩,
 ⟨some 54, none, .bin .lss (.tmp 51) (.tmp 53)⟩,
 ⟨some 55, none, .mov (.tmp 54)⟩,
 ⟨some 56, (some (55, false)), .fad (.tmp 9) 1⟩,
 ⟨some 57, (some (55, false)), .ld1 (.tmp 56)⟩,
 ⟨some 58, (some (55, false)), .mov (.tmp 10)⟩,
 ⟨some 59, (some (55, false)), .bin .lss (.tmp 57) (.tmp 58)⟩,
 ⟨some 60, none, .pick (.tmp 55) (.const (.bool true)) (.tmp 59)⟩])
 (.cond (.tmp 60)
 (.seq (.ops [⟨some 2, none, .mov (.const (.int .i32 65533))⟩,
 ⟨some 3, none, .mov (.const (.int .i64 1))⟩])
 .ret)
 .skip))
 (.seq (.seq (.ops [⟨some 61, none, .mov (.tmp 8)⟩,
 ⟨some 62, none, .bin .leq (.tmp 61) (.const (.int .i64 2))⟩])
 (.cond (.tmp 62)
 (.seq (.ops [⟨some 63, none, .mov (.tmp 5)⟩,
 ⟨some 64, none, .bin .and (.tmp 63) (.const (.int .u8 31))⟩,
 ⟨some 65, none, .cvi .i32 (.tmp 64)⟩,
 ⟨some 66, none, .bin .shl (.tmp 65) (.const (.int .u64 6))⟩,
 ⟨some 67, none, .mov (.tmp 10)⟩,
 ⟨some 68, none, .bin .and (.tmp 67) (.const (.int .u8 63))⟩,
 ⟨some 69, none, .cvi .i32 (.tmp 68)⟩,
 ⟨some 70, none, .bin .or (.tmp 66) (.tmp 69)⟩,
 ⟨some 2, none, .mov (.tmp 70)⟩,
 ⟨some 3, none, .mov (.const (.int .i64 2))⟩])
 .ret)
 .skip))
 (.seq (.ops [⟨some 71, none, .mov (.tmp 0)⟩,
 ⟨some 72, none, .iad 1 (.tmp 71) (.const (.int .i64 2))⟩,
 ⟨some 73, none, .ld1 (.tmp 72)⟩,
 ⟨some 11, none, .mov (.tmp 73)⟩])
 (.seq (.seq (.ops [⟨some 74, none, .mov (.tmp 11)⟩,
 ⟨some 75, none, .bin .lss (.tmp 74) (.const (.int .u8 128))⟩,
 ⟨some 76, none, .mov (.tmp 75)⟩,
 ⟨some 77, (some (76, false)), .mov (.tmp 11)⟩,
 ⟨some 78, (some (76, false)), .bin .lss (.const (.int .u8 191)) (.tmp 77)⟩,
 ⟨some 79, none, .pick (.tmp 76) (.const (.bool true)) (.tmp 78)⟩])
 (.cond (.tmp 79)
 (.seq (.ops [⟨some 2, none, .mov (.const (.int .i32 65533))⟩,
 ⟨some 3, none, .mov (.const (.int .i64 1))⟩])
 .ret)
 .skip))
 (.seq (.seq (.ops [⟨some 80, none, .mov (.tmp 8)⟩,
 ⟨some 81, none, .bin .leq (.tmp 80) (.const (.int .i64 3))⟩])
 (.cond (.tmp 81)
 (.seq (.ops [⟨some 82, none, .mov (.tmp 5)⟩,
 ⟨some 83, none, .bin .and (.tmp 82) (.const (.int .u8 15))⟩,
 ⟨some 84, none, .cvi .i32 (.tmp 83)⟩,
 ⟨some 85, none, .bin .shl (.tmp 84) (.const (.int .u64 12))⟩,
 ⟨some 86, none, .mov (.tmp 10)⟩,
 ⟨some 87, none, .bin .and (.tmp 86) (.const (.int .u8 63))⟩,
 ⟨some 88, none, .cvi .i32 (.tmp 87)⟩,
 ⟨some 89, none, .bin .shl (.tmp 88) (.const (.int .u64 6))⟩,
 ⟨some 90, none, .bin .or (.tmp 85) (.tmp 89)⟩,
 ⟨some 91, none, .mov (.tmp 11)⟩,
 ⟨some 92, none, .bin .and (.tmp 91) (.const (.int .u8 63))⟩,
 ⟨some 93, none, .cvi .i32 (.tmp 92)⟩,
 ⟨some 94, none, .bin .or (.tmp 90) (.tmp 93)⟩,
 ⟨some 2, none, .mov (.tmp 94)⟩,
 ⟨some 3, none, .mov (.const (.int .i64 3))⟩])
 .ret)
 .skip))
 (.seq (.ops [⟨some 95, none, .mov (.tmp 0)⟩,
 ⟨some 96, none, .iad 1 (.tmp 95) (.const (.int .i64 3))⟩,
 ⟨some 97, none, .ld1 (.tmp 96)⟩,
 ⟨some 12, none, .mov (.tmp 97)⟩])
 (.seq (.seq (.ops [⟨some 98, none, .mov (.tmp 12)⟩,
 ⟨some 99, none, .bin .lss (.tmp 98) (.const (.int .u8 128))⟩,
 ⟨some 100, none, .mov (.tmp 99)⟩,
 ⟨some 101, (some (100, false)), .mov (.tmp 12)⟩,
 ⟨some 102, (some (100, false)), .bin .lss (.const (.int .u8 191)) (.tmp 101)⟩,
 ⟨some 103, none, .pick (.tmp 100) (.const (.bool true)) (.tmp 102)⟩])
 (.cond (.tmp 103)
 (.seq (.ops [⟨some 2, none, .mov (.const (.int .i32 65533))⟩,
 ⟨some 3, none, .mov (.const (.int .i64 1))⟩])
 .ret)
 .skip))
 (.seq (.ops [⟨some 104, none, .mov (.tmp 5)⟩,
 ⟨some 105, none, .bin .and (.tmp 104) (.const (.int .u8 7))⟩,
 ⟨some 106, none, .cvi .i32 (.tmp 105)⟩,
 ⟨some 107, none, .bin .shl (.tmp 106) (.const (.int .u64 18))⟩,
 ⟨some 108, none, .mov (.tmp 10)⟩,
 ⟨some 109, none, .bin .and (.tmp 108) (.const (.int .u8 63))⟩,
 ⟨some 110, none, .cvi .i32 (.tmp 109)⟩,
 ⟨some 111, none, .bin .shl (.tmp 110) (.const (.int .u64 12))⟩,
 ⟨some 112, none, .bin .or (.tmp 107) (.tmp 111)⟩,
 ⟨some 113, none, .mov (.tmp 11)⟩,
 ⟨some 114, none, .bin .and (.tmp 113) (.const (.int .u8 63))⟩,
 ⟨some 115, none, .cvi .i32 (.tmp 114)⟩,
 ⟨some 116, none, .bin .shl (.tmp 115) (.const (.int .u64 6))⟩,
 ⟨some 117, none, .bin .or (.tmp 112) (.tmp 116)⟩,
 ⟨some 118, none, .mov (.tmp 12)⟩,
 ⟨some 119, none, .bin .and (.tmp 118) (.const (.int .u8 63))⟩,
 ⟨some 120, none, .cvi .i32 (.tmp 119)⟩,
 ⟨some 121, none, .bin .or (.tmp 117) (.tmp 120)⟩,
 ⟨some 2, none, .mov (.tmp 121)⟩,
 ⟨some 3, none, .mov (.const (.int .i64 4))⟩])
 .ret))))))))))))))))))⟩
theorem ok137 : compF Tryz.prog Tryz.f137 = some c137 := by kernel_rfl
def codes : List (Nat × CF) := [(3, c3), (4, c4), (5, c5), (6, c6), (7, c7), (8, c8), (9, c9), (10, c10), (11, c11), (12, c12), (13, c13), (14, c14), (15, c15), (16, c16), (17, c17), (18, c18), (19, c19), (21, c21), (22, c22), (24, c24), (25, c25), (26, c26), (27, c27), (28, c28), (29, c29), (30, c30), (31, c31), (32, c32), (33, c33), (34, c34), (35, c35), (36, c36), (37, c37), (38, c38), (39, c39), (40, c40), (41, c41), (42, c42), (43, c43), (44, c44), (45, c45), (46, c46), (47, c47), (48, c48), (49, c49), (50, c50), (51, c51), (52, c52), (53, c53), (54, c54), (55, c55), (56, c56), (57, c57), (58, c58), (59, c59), (60, c60), (61, c61), (62, c62), (63, c63), (64, c64), (65, c65), (66, c66), (67, c67), (68, c68), (69, c69), (70, c70), (71, c71), (72, c72), (73, c73), (74, c74), (75, c75), (76, c76), (77, c77), (78, c78), (79, c79), (80, c80), (81, c81), (82, c82), (83, c83), (84, c84), (85, c85), (86, c86), (87, c87), (88, c88), (89, c89), (90, c90), (91, c91), (92, c92), (93, c93), (94, c94), (95, c95), (96, c96), (97, c97), (98, c98), (99, c99), (100, c100), (101, c101), (102, c102), (103, c103), (104, c104), (105, c105), (106, c106), (107, c107), (108, c108), (109, c109), (110, c110), (111, c111), (112, c112), (113, c113), (114, c114), (115, c115), (116, c116), (117, c117), (118, c118), (119, c119), (120, c120), (121, c121), (122, c122), (123, c123), (124, c124), (125, c125), (126, c126), (127, c127), (128, c128), (129, c129), (130, c130), (131, c131), (132, c132), (134, c134), (135, c135), (136, c136), (137, c137)]
noncomputable def code : FuncId → Option CF := fget (tabOf codes)
theorem code_ok : ∀ f cf, code f = some cf → ∃ fn, Tryz.prog.funcs[f]? = some fn ∧ compF Tryz.prog fn = some cf := by
  refine code_of_tab ?_
  refine List.forall_mem_cons.2 ⟨⟨_, Tryz.func3, ok3⟩, ?_⟩
  refine List.forall_mem_cons.2 ⟨⟨_, Tryz.func4, ok4⟩, ?_⟩
  refine List.forall_mem_cons.2 ⟨⟨_, Tryz.func5, ok5⟩, ?_⟩
  refine List.forall_mem_cons.2 ⟨⟨_, Tryz.func6, ok6⟩, ?_⟩
  refine List.forall_mem_cons.2 ⟨⟨_, Tryz.func7, ok7⟩, ?_⟩
  refine List.forall_mem_cons.2 ⟨⟨_, Tryz.func8, ok8⟩, ?_⟩
  refine List.forall_mem_cons.2 ⟨⟨_, Tryz.func9, ok9⟩, ?_⟩
  refine List.forall_mem_cons.2 ⟨⟨_, Tryz.func10, ok10⟩, ?_⟩
  refine List.forall_mem_cons.2 ⟨⟨_, Tryz.func11, ok11⟩, ?_⟩
  refine List.forall_mem_cons.2 ⟨⟨_, Tryz.func12, ok12⟩, ?_⟩
  refine List.forall_mem_cons.2 ⟨⟨_, Tryz.func13, ok13⟩, ?_⟩
  refine List.forall_mem_cons.2 ⟨⟨_, Tryz.func14, ok14⟩, ?_⟩
  refine List.forall_mem_cons.2 ⟨⟨_, Tryz.func15, ok15⟩, ?_⟩
  refine List.forall_mem_cons.2 ⟨⟨_, Tryz.func16, ok16⟩, ?_⟩
  refine List.forall_mem_cons.2 ⟨⟨_, Tryz.func17, ok17⟩, ?_⟩
  refine List.forall_mem_cons.2 ⟨⟨_, Tryz.func18, ok18⟩, ?_⟩
  refine List.forall_mem_cons.2 ⟨⟨_, Tryz.func19, ok19⟩, ?_⟩
  refine List.forall_mem_cons.2 ⟨⟨_, Tryz.func21, ok21⟩, ?_⟩
  refine List.forall_mem_cons.2 ⟨⟨_, Tryz.func22, ok22⟩, ?_⟩
  refine List.forall_mem_cons.2 ⟨⟨_, Tryz.func24, ok24⟩, ?_⟩
  refine List.forall_mem_cons.2 ⟨⟨_, Tryz.func25, ok25⟩, ?_⟩
  refine List.forall_mem_cons.2 ⟨⟨_, Tryz.func26, ok26⟩, ?_⟩
  refine List.forall_mem_cons.2 ⟨⟨_, Tryz.func27, ok27⟩, ?_⟩
  refine List.forall_mem_cons.2 ⟨⟨_, Tryz.func28, ok28⟩, ?_⟩
  refine List.forall_mem_cons.2 ⟨⟨_, Tryz.func29, ok29⟩, ?_⟩
  refine List.forall_mem_cons.2 ⟨⟨_, Tryz.func30, ok30⟩, ?_⟩
  refine List.forall_mem_cons.2 ⟨⟨_, Tryz.func31, ok31⟩, ?_⟩
  refine List.forall_mem_cons.2 ⟨⟨_, Tryz.func32, ok32⟩, ?_⟩
  refine List.forall_mem_cons.2 ⟨⟨_, Tryz.func33, ok33⟩, ?_⟩
  refine List.forall_mem_cons.2 ⟨⟨_, Tryz.func34, ok34⟩, ?_⟩
  refine List.forall_mem_cons.2 ⟨⟨_, Tryz.func35, ok35⟩, ?_⟩
  refine List.forall_mem_cons.2 ⟨⟨_, Tryz.func36, ok36⟩, ?_⟩
  refine List.forall_mem_cons.2 ⟨⟨_, Tryz.func37, ok37⟩, ?_⟩
  refine List.forall_mem_cons.2 ⟨⟨_, Tryz.func38, ok38⟩, ?_⟩
  refine List.forall_mem_cons.2 ⟨⟨_, Tryz.func39, ok39⟩, ?_⟩
  refine List.forall_mem_cons.2 ⟨⟨_, Tryz.func40, ok40⟩, ?_⟩
  refine List.forall_mem_cons.2 ⟨⟨_, Tryz.func41, ok41⟩, ?_⟩
  refine List.forall_mem_cons.2 ⟨⟨_, Tryz.func42, ok42⟩, ?_⟩
  refine List.forall_mem_cons.2 ⟨⟨_, Tryz.func43, ok43⟩, ?_⟩
  refine List.forall_mem_cons.2 ⟨⟨_, Tryz.func44, ok44⟩, ?_⟩
  refine List.forall_mem_cons.2 ⟨⟨_, Tryz.func45, ok45⟩, ?_⟩
  refine List.forall_mem_cons.2 ⟨⟨_, Tryz.func46, ok46⟩, ?_⟩
  refine List.forall_mem_cons.2 ⟨⟨_, Tryz.func47, ok47⟩, ?_⟩
  refine List.forall_mem_cons.2 ⟨⟨_, Tryz.func48, ok48⟩, ?_⟩
  refine List.forall_mem_cons.2 ⟨⟨_, Tryz.func49, ok49⟩, ?_⟩
  refine List.forall_mem_cons.2 ⟨⟨_, Tryz.func50, ok50⟩, ?_⟩
  refine List.forall_mem_cons.2 ⟨⟨_, Tryz.func51, ok51⟩, ?_⟩
  refine List.forall_mem_cons.2 ⟨⟨_, Tryz.func52, ok52⟩, ?_⟩
  refine List.forall_mem_cons.2 ⟨⟨_, Tryz.func53, ok53⟩, ?_⟩
  refine List.forall_mem_cons.2 ⟨⟨_, Tryz.func54, ok54⟩, ?_⟩
  refine List.forall_mem_cons.2 ⟨⟨_, Tryz.func55, ok55⟩, ?_⟩
  refine List.forall_mem_cons.2 ⟨⟨_, Tryz.func56, ok56⟩, ?_⟩
  refine List.forall_mem_cons.2 ⟨⟨_, Tryz.func57, ok57⟩, ?_⟩
  refine List.forall_mem_cons.2 ⟨⟨_, Tryz.func58, ok58⟩, ?_⟩
  refine List.forall_mem_cons.2 ⟨⟨_, Tryz.func59, ok59⟩, ?_⟩
  refine List.forall_mem_cons.2 ⟨⟨_, Tryz.func60, ok60⟩, ?_⟩
  refine List.forall_mem_cons.2 ⟨⟨_, Tryz.func61, ok61⟩, ?_⟩
  refine List.forall_mem_cons.2 ⟨⟨_, Tryz.func62, ok62⟩, ?_⟩
  refine List.forall_mem_cons.2 ⟨⟨_, Tryz.func63, ok63⟩, ?_⟩
  refine List.forall_mem_cons.2 ⟨⟨_, Tryz.func64, ok64⟩, ?_⟩
  refine List.forall_mem_cons.2 ⟨⟨_, Tryz.func65, ok65⟩, ?_⟩
  refine List.forall_mem_cons.2 ⟨⟨_, Tryz.func66, ok66⟩, ?_⟩
  refine List.forall_mem_cons.2 ⟨⟨_, Tryz.func67, ok67⟩, ?_⟩
  refine List.forall_mem_cons.2 ⟨⟨_, Tryz.func68, ok68⟩, ?_⟩
  refine List.forall_mem_cons.2 ⟨⟨_, Tryz.func69, ok69⟩, ?_⟩
  refine List.forall_mem_cons.2 ⟨⟨_, Tryz.func70, ok70⟩, ?_⟩
  refine List.forall_mem_cons.2 ⟨⟨_, Tryz.func71, ok71⟩, ?_⟩
  refine List.forall_mem_cons.2 ⟨⟨_, Tryz.func72, ok72⟩, ?_⟩
  refine List.forall_mem_cons.2 ⟨⟨_, Tryz.func73, ok73⟩, ?_⟩
  refine List.forall_mem_cons.2 ⟨⟨_, Tryz.func74, ok74⟩, ?_⟩
  refine List.forall_mem_cons.2 ⟨⟨_, Tryz.func75, ok75⟩, ?_⟩
  refine List.forall_mem_cons.2 ⟨⟨_, Tryz.func76, ok76⟩, ?_⟩
  refine List.forall_mem_cons.2 ⟨⟨_, Tryz.func77, ok77⟩, ?_⟩
  refine List.forall_mem_cons.2 ⟨⟨_, Tryz.func78, ok78⟩, ?_⟩
  refine List.forall_mem_cons.2 ⟨⟨_, Tryz.func79, ok79⟩, ?_⟩
  refine List.forall_mem_cons.2 ⟨⟨_, Tryz.func80, ok80⟩, ?_⟩
  refine List.forall_mem_cons.2 ⟨⟨_, Tryz.func81, ok81⟩, ?_⟩
  refine List.forall_mem_cons.2 ⟨⟨_, Tryz.func82, ok82⟩, ?_⟩
  refine List.forall_mem_cons.2 ⟨⟨_, Tryz.func83, ok83⟩, ?_⟩
  refine List.forall_mem_cons.2 ⟨⟨_, Tryz.func84, ok84⟩, ?_⟩
  refine List.forall_mem_cons.2 ⟨⟨_, Tryz.func85, ok85⟩, ?_⟩
  refine List.forall_mem_cons.2 ⟨⟨_, Tryz.func86, ok86⟩, ?_⟩
  refine List.forall_mem_cons.2 ⟨⟨_, Tryz.func87, ok87⟩, ?_⟩
  refine List.forall_mem_cons.2 ⟨⟨_, Tryz.func88, ok88⟩, ?_⟩
  refine List.forall_mem_cons.2 ⟨⟨_, Tryz.func89, ok89⟩, ?_⟩
  refine List.forall_mem_cons.2 ⟨⟨_, Tryz.func90, ok90⟩, ?_⟩
  refine List.forall_mem_cons.2 ⟨⟨_, Tryz.func91, ok91⟩, ?_⟩
  refine List.forall_mem_cons.2 ⟨⟨_, Tryz.func92, ok92⟩, ?_⟩
  refine List.forall_mem_cons.2 ⟨⟨_, Tryz.func93, ok93⟩, ?_⟩
  refine List.forall_mem_cons.2 ⟨⟨_, Tryz.func94, ok94⟩, ?_⟩
  refine List.forall_mem_cons.2 ⟨⟨_, Tryz.func95, ok95⟩, ?_⟩
  refine List.forall_mem_cons.2 ⟨⟨_, Tryz.func96, ok96⟩, ?_⟩
  refine List.forall_mem_cons.2 ⟨⟨_, Tryz.func97, ok97⟩, ?_⟩
  refine List.forall_mem_cons.2 ⟨⟨_, Tryz.func98, ok98⟩, ?_⟩
  refine List.forall_mem_cons.2 ⟨⟨_, Tryz.func99, ok99⟩, ?_⟩
  refine List.forall_mem_cons.2 ⟨⟨_, Tryz.func100, ok100⟩, ?_⟩
  refine List.forall_mem_cons.2 ⟨⟨_, Tryz.func101, ok101⟩, ?_⟩
  refine List.forall_mem_cons.2 ⟨⟨_, Tryz.func102, ok102⟩, ?_⟩
  refine List.forall_mem_cons.2 ⟨⟨_, Tryz.func103, ok103⟩, ?_⟩
  refine List.forall_mem_cons.2 ⟨⟨_, Tryz.func104, ok104⟩, ?_⟩
  refine List.forall_mem_cons.2 ⟨⟨_, Tryz.func105, ok105⟩, ?_⟩
  refine List.forall_mem_cons.2 ⟨⟨_, Tryz.func106, ok106⟩, ?_⟩
  refine List.forall_mem_cons.2 ⟨⟨_, Tryz.func107, ok107⟩, ?_⟩
  refine List.forall_mem_cons.2 ⟨⟨_, Tryz.func108, ok108⟩, ?_⟩
  refine List.forall_mem_cons.2 ⟨⟨_, Tryz.func109, ok109⟩, ?_⟩
  refine List.forall_mem_cons.2 ⟨⟨_, Tryz.func110, ok110⟩, ?_⟩
  refine List.forall_mem_cons.2 ⟨⟨_, Tryz.func111, ok111⟩, ?_⟩
  refine List.forall_mem_cons.2 ⟨⟨_, Tryz.func112, ok112⟩, ?_⟩
  refine List.forall_mem_cons.2 ⟨⟨_, Tryz.func113, ok113⟩, ?_⟩
  refine List.forall_mem_cons.2 ⟨⟨_, Tryz.func114, ok114⟩, ?_⟩
  refine List.forall_mem_cons.2 ⟨⟨_, Tryz.func115, ok115⟩, ?_⟩
  refine List.forall_mem_cons.2 ⟨⟨_, Tryz.func116, ok116⟩, ?_⟩
  refine List.forall_mem_cons.2 ⟨⟨_, Tryz.func117, ok117⟩, ?_⟩
  refine List.forall_mem_cons.2 ⟨⟨_, Tryz.func118, ok118⟩, ?_⟩
  refine List.forall_mem_cons.2 ⟨⟨_, Tryz.func119, ok119⟩, ?_⟩
  refine List.forall_mem_cons.2 ⟨⟨_, Tryz.func120, ok120⟩, ?_⟩
  refine List.forall_mem_cons.2 ⟨⟨_, Tryz.func121, ok121⟩, ?_⟩
  refine List.forall_mem_cons.2 ⟨⟨_, Tryz.func122, ok122⟩, ?_⟩
  refine List.forall_mem_cons.2 ⟨⟨_, Tryz.func123, ok123⟩, ?_⟩
  refine List.forall_mem_cons.2 ⟨⟨_, Tryz.func124, ok124⟩, ?_⟩
  refine List.forall_mem_cons.2 ⟨⟨_, Tryz.func125, ok125⟩, ?_⟩
  refine List.forall_mem_cons.2 ⟨⟨_, Tryz.func126, ok126⟩, ?_⟩
  refine List.forall_mem_cons.2 ⟨⟨_, Tryz.func127, ok127⟩, ?_⟩
  refine List.forall_mem_cons.2 ⟨⟨_, Tryz.func128, ok128⟩, ?_⟩
  refine List.forall_mem_cons.2 ⟨⟨_, Tryz.func129, ok129⟩, ?_⟩
  refine List.forall_mem_cons.2 ⟨⟨_, Tryz.func130, ok130⟩, ?_⟩
  refine List.forall_mem_cons.2 ⟨⟨_, Tryz.func131, ok131⟩, ?_⟩
  refine List.forall_mem_cons.2 ⟨⟨_, Tryz.func132, ok132⟩, ?_⟩
  refine List.forall_mem_cons.2 ⟨⟨_, Tryz.func134, ok134⟩, ?_⟩
  refine List.forall_mem_cons.2 ⟨⟨_, Tryz.func135, ok135⟩, ?_⟩
  refine List.forall_mem_cons.2 ⟨⟨_, Tryz.func136, ok136⟩, ?_⟩
  refine List.forall_mem_cons.2 ⟨⟨_, Tryz.func137, ok137⟩, ?_⟩
  exact fun _ h => (by cases h)
end Go.Proofs.YthpmjahdeimgmaaGreatDoor.code
