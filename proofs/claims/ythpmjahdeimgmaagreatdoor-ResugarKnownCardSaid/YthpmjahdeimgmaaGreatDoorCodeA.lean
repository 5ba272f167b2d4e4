/- The code that the law reaches, as the interpreter takes it; each function's is shown to be the program's own. By an AI agent. No person has read it. -/
import Derived.Test.YthpmjahdeimgmaaGreatDoorAm4
import Derived.Test.YthpmjahdeimgmaaGreatDoorChecked
import Derived.KernelRfl
namespace Go.Proofs.YthpmjahdeimgmaaGreatDoor.code
open Go Am
set_option maxRecDepth 100000
def c3 : CF := ⟨2, [.tmp 0],
 (.seq (.ops [⟨some 0, none, .mov (.const (.bool false))⟩])
 (.seq (.ops [⟨some 1, none, .call (.func 4) []⟩,
 ⟨some 0, none, .mov (.tmp 1)⟩])
 .ret))⟩
theorem ok3 : compF Tryz.prog Tryz.f3 = some c3 := by kernel_rfl
def c4 : CF := ⟨111, [.tmp 0],
 (.seq (.ops [⟨some 0, none, .mov (.const (.bool false))⟩])
 (.seq (.ops [⟨some 6, none, .agg [(.int .i64 0), (.int .i64 0), (.int .i64 0), (.string ⟨#[]⟩), (.int .i32 0), (.int .i32 0)] [(0, 1, (.const (.int .i64 4)))]⟩,
 ⟨some 7, none, .call (.func 5) [(.tmp 6), (.const (.slice none 0 0))]⟩,
 ⟨some 1, none, .mov (.tmp 7)⟩])
 (.seq (.ops [⟨some 8, none, .agg [(.int .i64 0), (.int .i64 0), (.int .i64 0), (.string ⟨#[]⟩), (.int .i32 0), (.int .i32 0)] [(0, 1, (.const (.int .i64 5)))]⟩,
 ⟨some 2, none, .newz [(.int .i64 0), (.int .i64 0), (.int .i64 0), (.string ⟨#[]⟩), (.int .i32 0), (.int .i32 0)]⟩,
 ⟨none, none, .st 6 (.tmp 2) (.tmp 8)⟩])
 (.seq (.ops [⟨some 9, none, .agg [(.int .i64 0), (.int .i64 0), (.int .i64 0), (.string ⟨#[]⟩), (.int .i32 0), (.int .i32 0)] [(0, 1, (.const (.int .i64 10))), (4, 1, (.const (.int .i32 18)))]⟩,
 ⟨some 3, none, .newz [(.int .i64 0), (.int .i64 0), (.int .i64 0), (.string ⟨#[]⟩), (.int .i32 0), (.int .i32 0)]⟩,
 ⟨none, none, .st 6 (.tmp 3) (.tmp 9)⟩])
 (.seq (.ops [⟨some 10, none, .call (.func 8) [(.const (.int .i64 2))]⟩,
 ⟨some 11, none, .call (.func 7) [(.const (.int .i32 15)), (.const (.int .i64 0)), (.tmp 10)]⟩,
 ⟨some 12, none, .lits [(.slice none 0 0)] 1 [(0, 1, (.tmp 11))]⟩,
 ⟨some 13, none, .call (.func 6) [(.const (.int .i32 14)), (.tmp 12)]⟩,
 ⟨some 4, none, .mov (.tmp 13)⟩])
 (.seq (.ops [⟨some 14, none, .call (.func 9) [(.const (.int .i64 5)), (.const (.slice none 0 0))]⟩,
 ⟨some 15, none, .lits [(.slice none 0 0)] 1 [(0, 1, (.tmp 14))]⟩,
 ⟨some 16, none, .call (.func 9) [(.const (.int .i64 3)), (.tmp 15)]⟩,
 ⟨some 5, none, .mov (.tmp 16)⟩])
 (.seq (.draw [⟨some 17, none, .call (.func 11) [(.const (.int .i64 0))]⟩,
 ⟨some 18, none, .call (.func 7) [(.const (.int .i32 2)), (.const (.int .i64 1)), (.tmp 17)]⟩,
 ⟨some 19, none, .call (.func 8) [(.const (.int .i64 1))]⟩,
 ⟨some 20, none, .lits [(.slice none 0 0), (.slice none 0 0)] 2 [(0, 1, (.tmp 18)), (1, 1, (.tmp 19))]⟩,
 ⟨some 21, none, .call (.func 6) [(.const (.int .i32 1)), (.tmp 20)]⟩,
 ⟨some 22, none, .call (.func 12) [(.const (.int .i64 0))]⟩,
 ⟨some 23, none, .call (.func 13) [(.const (.int .i64 1))]⟩,
 ⟨some 24, none, .call (.func 14) [(.const (.int .i64 0))]⟩,
 ⟨some 25, none, .lits [(.slice none 0 0), (.slice none 0 0), (.slice none 0 0)] 3 [(0, 1, (.tmp 22)), (1, 1, (.tmp 23)), (2, 1, (.tmp 24))]⟩,
 ⟨some 26, none, .call (.func 9) [(.const (.int .i64 12)), (.tmp 25)]⟩,
 ⟨some 27, none, .call (.func 10) [(.tmp 21), (.tmp 26)]⟩,
 ⟨some 28, none, .mov (.tmp 27)⟩,
 ⟨some 29, (some (28, true)), .ld 6 (.tmp 3)⟩,
 ⟨some 30, (some (28, true)), .call (.func 8) [(.const (.int .i64 1))]⟩,
 ⟨some 31, (some (28, true)), .call (.func 8) [(.const (.int .i64 1))]⟩,
 ⟨some 32, (some (28, true)), .mov (.tmp 4)⟩,
 ⟨some 33, (some (28, true)), .lits [(.slice none 0 0), (.slice none 0 0), (.slice none 0 0)] 3 [(0, 1, (.tmp 30)), (1, 1, (.tmp 31)), (2, 1, (.tmp 32))]⟩,
 ⟨some 34, (some (28, true)), .call (.func 5) [(.tmp 29), (.tmp 33)]⟩,
 ⟨some 35, (some (28, true)), .call (.func 15) [(.tmp 34)]⟩,
 ⟨some 36, none, .pick (.tmp 28) (.tmp 35) (.const (.bool false))⟩,
 ⟨some 37, none, .mov (.tmp 36)⟩,
 ⟨some 38, (some (37, true)), .call (.func 11) [(.const (.int .i64 0))]⟩,
 ⟨some 39, (some (37, true)), .call (.func 7) [(.const (.int .i32 2)), (.const (.int .i64 1)), (.tmp 38)]⟩,
 ⟨some 40, (some (37, true)), .call (.func 15) [(.tmp 39)]⟩,
 ⟨some 41, none, .pick (.tmp 37) (.tmp 40) (.const (.bool false))⟩,
 ⟨some 42, none, .mov (.tmp 41)⟩,
 ⟨some 43, (some (42, true)), .mov (.tmp 4)⟩,
 ⟨some 44, (some (42, true)), .call (.func 13) [(.const (.int .i64 2))]⟩,
 ⟨some 45, (some (42, true)), .lits [(.slice none 0 0)] 1 [(0, 1, (.tmp 44))]⟩,
 ⟨some 46, (some (42, true)), .call (.func 9) [(.const (.int .i64 19)), (.tmp 45)]⟩,
 ⟨some 47, (some (42, true)), .call (.func 10) [(.tmp 43), (.tmp 46)]⟩,
 ⟨some 48, none, .pick (.tmp 42) (.tmp 47) (.const (.bool false))⟩,
 ⟨some 49, none, .mov (.tmp 48)⟩,
 ⟨some 50, (some (49, true)), .ld 6 (.tmp 2)⟩,
 ⟨some 51, (some (49, true)), .call (.func 8) [(.const (.int .i64 1))]⟩,
 ⟨some 52, (some (49, true)), .ld 6 (.tmp 2)⟩,
 ⟨some 53, (some (49, true)), .call (.func 8) [(.const (.int .i64 2))]⟩,
 ⟨some 54, (some (49, true)), .mov (.tmp 1)⟩,
 ⟨some 55, (some (49, true)), .lits [(.slice none 0 0), (.slice none 0 0)] 2 [(0, 1, (.tmp 53)), (1, 1, (.tmp 54))]⟩,
 ⟨some 56, (some (49, true)), .call (.func 5) [(.tmp 52), (.tmp 55)]⟩,
 ⟨some 57, (some (49, true)), .lits [(.slice none 0 0), (.slice none 0 0)] 2 [(0, 1, (.tmp 51)), (1, 1, (.tmp 56))]⟩,
 ⟨some 58, (some (49, true)), .call (.func 5) [(.tmp 50), (.tmp 57)]⟩,
 ⟨some 59, (some (49, true)), .call (.func 13) [(.const (.int .i64 1))]⟩,
 ⟨some 60, (some (49, true)), .call (.func 13) [(.const (.int .i64 2))]⟩,
 ⟨some 61, (some (49, true)), .lits [(.slice none 0 0), (.slice none 0 0)] 2 [(0, 1, (.tmp 59)), (1, 1, (.tmp 60))]⟩,
 ⟨some 62, (some (49, true)), .call (.func 9) [(.const (.int .i64 5)), (.tmp 61)]⟩,
 ⟨some 63, (some (49, true)), .lits [(.slice none 0 0)] 1 [(0, 1, (.tmp 62))]⟩,
 ⟨some 64, (some (49, true)), .call (.func 9) [(.const (.int .i64 3)), (.tmp 63)]⟩,
 ⟨some 65, (some (49, true)), .call (.func 10) [(.tmp 58), (.tmp 64)]⟩,
 ⟨some 66, none, .pick (.tmp 49) (.tmp 65) (.const (.bool false))⟩,
 ⟨some 67, none, .mov (.tmp 66)⟩,
 ⟨some 68, (some (67, true)), .ld 6 (.tmp 2)⟩,
 ⟨some 69, (some (67, true)), .call (.func 8) [(.const (.int .i64 1))]⟩,
 ⟨some 70, (some (67, true)), .call (.func 8) [(.const (.int .i64 2))]⟩,
 ⟨some 71, (some (67, true)), .lits [(.slice none 0 0), (.slice none 0 0)] 2 [(0, 1, (.tmp 69)), (1, 1, (.tmp 70))]⟩,
 ⟨some 72, (some (67, true)), .call (.func 5) [(.tmp 68), (.tmp 71)]⟩,
 ⟨some 73, (some (67, true)), .call (.func 13) [(.const (.int .i64 1))]⟩,
 ⟨some 74, (some (67, true)), .call (.func 13) [(.const (.int .i64 2))]⟩,
 ⟨some 75, (some (67, true)), .lits [(.slice none 0 0), (.slice none 0 0)] 2 [(0, 1, (.tmp 73)), (1, 1, (.tmp 74))]⟩,
 ⟨some 76, (some (67, true)), .call (.func 9) [(.const (.int .i64 24)), (.tmp 75)]⟩,
 ⟨some 77, (some (67, true)), .call (.func 10) [(.tmp 72), (.tmp 76)]⟩,
 ⟨some 78, none, .pick (.tmp 67) (.tmp 77) (.const (.bool false))⟩,
 ⟨some 79, none, .mov (.tmp 78)⟩,
 ⟨some 80, (some (79, true)), .ld 6 (.tmp 2)⟩,
 ⟨some 81, (some (79, true)), .call (.func 11) [(.const (.int .i64 0))]⟩,
 ⟨some 82, (some (79, true)), .call (.func 7) [(.const (.int .i32 0)), (.const (.int .i64 1)), (.tmp 81)]⟩,
 ⟨some 83, (some (79, true)), .mov (.tmp 1)⟩,
 ⟨some 84, (some (79, true)), .lits [(.slice none 0 0), (.slice none 0 0)] 2 [(0, 1, (.tmp 82)), (1, 1, (.tmp 83))]⟩,
 ⟨some 85, (some (79, true)), .call (.func 5) [(.tmp 80), (.tmp 84)]⟩,
 ⟨some 86, (some (79, true)), .call (.func 12) [(.const (.int .i64 0))]⟩,
 ⟨some 87, (some (79, true)), .call (.func 14) [(.const (.int .i64 0))]⟩,
 ⟨some 88, (some (79, true)), .lits [(.slice none 0 0), (.slice none 0 0)] 2 [(0, 1, (.tmp 86)), (1, 1, (.tmp 87))]⟩,
 ⟨some 89, (some (79, true)), .call (.func 9) [(.const (.int .i64 8)), (.tmp 88)]⟩,
 ⟨some 90, (some (79, true)), .mov (.tmp 5)⟩,
 ⟨some 91, (some (79, true)), .lits [(.slice none 0 0), (.slice none 0 0)] 2 [(0, 1, (.tmp 89)), (1, 1, (.tmp 90))]⟩,
 ⟨some 92, (some (79, true)), .call (.func 9) [(.const (.int .i64 24)), (.tmp 91)]⟩,
 ⟨some 93, (some (79, true)), .call (.func 10) [(.tmp 85), (.tmp 92)]⟩,
 ⟨some 94, none, .pick (.tmp 79) (.tmp 93) (.const (.bool false))⟩,
 ⟨some 95, none, .mov (.tmp 94)⟩,
 ⟨some 96, (some (95, true)), .ld 6 (.tmp 3)⟩,
 ⟨some 97, (some (95, true)), .call (.func 11) [(.const (.int .i64 0))]⟩,
 ⟨some 98, (some (95, true)), .call (.func 11) [(.const (.int .i64 0))]⟩,
 ⟨some 99, (some (95, true)), .call (.func 11) [(.const (.int .i64 0))]⟩,
 ⟨some 100, (some (95, true)), .call (.func 7) [(.const (.int .i32 15)), (.const (.int .i64 0)), (.tmp 99)]⟩,
 ⟨some 101, (some (95, true)), .lits [(.slice none 0 0)] 1 [(0, 1, (.tmp 100))]⟩,
 ⟨some 102, (some (95, true)), .call (.func 6) [(.const (.int .i32 14)), (.tmp 101)]⟩,
 ⟨some 103, (some (95, true)), .lits [(.slice none 0 0), (.slice none 0 0), (.slice none 0 0)] 3 [(0, 1, (.tmp 97)), (1, 1, (.tmp 98)), (2, 1, (.tmp 102))]⟩,
 ⟨some 104, (some (95, true)), .call (.func 5) [(.tmp 96), (.tmp 103)]⟩,
 ⟨some 105, (some (95, true)), .call (.func 7) [(.const (.int .i32 17)), (.const (.int .i64 1)), (.tmp 104)]⟩,
 ⟨some 106, (some (95, true)), .call (.func 8) [(.const (.int .i64 1))]⟩,
 ⟨some 107, (some (95, true)), .lits [(.slice none 0 0), (.slice none 0 0)] 2 [(0, 1, (.tmp 105)), (1, 1, (.tmp 106))]⟩,
 ⟨some 108, (some (95, true)), .call (.func 6) [(.const (.int .i32 16)), (.tmp 107)]⟩,
 ⟨some 109, (some (95, true)), .call (.func 15) [(.tmp 108)]⟩,
 ⟨some 110, none, .pick (.tmp 95) (.tmp 109) (.const (.bool false))⟩,
 ⟨some 0, none, .mov (.tmp 110)⟩] [(12, 13), (12, 14), (12, 15), (13, 15), (14, 15), (12, 16), (26, 27), (26, 28), (26, 29), (33, 34), (33, 35), (34, 35), (33, 36), (35, 36), (33, 37), (34, 37), (35, 37), (36, 37), (33, 38), (35, 38), (33, 39), (33, 40), (51, 52), (51, 53), (51, 54), (63, 64), (63, 65), (63, 66), (64, 66), (65, 66), (63, 67), (63, 73), (64, 73), (65, 73), (66, 73), (67, 73), (68, 73), (69, 73), (70, 73), (71, 73), (72, 73), (79, 80), (79, 81), (79, 82), (79, 83), (79, 84), (79, 85), (79, 86)])
 .ret)))))))⟩
theorem ok4 : compF Tryz.prog Tryz.f4 = some c4 := fcompF_ok (bs := [(6, [0, 1, 3, 7, 15, 31, 63, 127, 255, 511, 1023, 2047, 4095, 4095, 12287, 4095, 61439, 131071, 262143, 524287, 1048575, 2097151, 4194303, 8388607, 16777215, 33554431, 67108863, 67108863, 201326591, 469762047, 1073741823, 2147483647, 4294967295, 8589934591, 8589934591, 8589934591, 25769803775, 8589934591, 231928233983, 541165879295, 1090921693183, 2199023255551, 4398046511103, 8796093022207, 17592186044415, 35184372088831, 70368744177663, 140737488355327, 281474976710655, 562949953421311, 1125899906842623, 2251799813685247, 2251799813685247, 6755399441055743, 15762598695796735, 36028797018963967, 72057594037927935, 144115188075855871, 288230376151711743, 576460752303423487, 1152921504606846975, 2305843009213693951, 4611686018427387903, 9223372036854775807, 9223372036854775807, 27670116110564327423, 9223372036854775807, 138350580552821637119, 295147905179352825855, 590295810358705651711, 1180591620717411303423, 2361183241434822606847, 4722366482869645213695, 9223372036854775807, 18889465931478580854783, 37778931862957161709567, 75557863725914323419135, 151115727451828646838271, 302231454903657293676543, 604462909807314587353087, 604462909807314587353087, 1813388729421943762059263, 4231240368651202111471615, 9066943647109718810296319, 18738350204026752207945727, 38081163317860819003244543, 76766789545528952593842175, 154742504910672534362390527, 309485009821345068724781055, 618970019642690137449562111, 1237940039285380274899124223, 2475880078570760549798248447, 4951760157141521099596496895, 9903520314283042199192993791, 19807040628566084398385987583])]) (by kernel_rfl)
def c5 : CF := ⟨25, [.tmp 4],
 (.seq (.ops [⟨some 2, none, .box (.tmp 0)⟩,
 ⟨some 4, none, .mov (.const (.slice none 0 0))⟩])
 (.seq (.ops [⟨some 7, none, .mov (.tmp 1)⟩,
 ⟨some 8, none, .lnl (.tmp 7)⟩,
 ⟨some 9, none, .fad (.tmp 2) 1⟩,
 ⟨none, none, .st 1 (.tmp 9) (.tmp 8)⟩])
 (.seq (.ops [⟨some 10, none, .ld 6 (.tmp 2)⟩,
 ⟨some 11, none, .lits [(.int .i64 0), (.int .i64 0), (.int .i64 0), (.string ⟨#[]⟩), (.int .i32 0), (.int .i32 0)] 1 [(0, 6, (.tmp 10))]⟩,
 ⟨some 5, none, .mov (.tmp 11)⟩])
 (.seq (.seq (.ops [⟨some 6, none, .mov (.const (.int .i64 0))⟩])
 (.block 0 (.loop (.seq (.seq (.ops [⟨some 12, none, .mov (.tmp 6)⟩,
 ⟨some 13, none, .mov (.tmp 1)⟩,
 ⟨some 14, none, .lnl (.tmp 13)⟩,
 ⟨some 15, none, .bin .lss (.tmp 12) (.tmp 14)⟩])
 (.cond (.tmp 15)
 .skip
 (.exit 0)))
 (.seq (.block 1 (.ops [⟨some 18, none, .mov (.tmp 5)⟩,
 ⟨some 19, none, .mov (.tmp 1)⟩,
 ⟨some 20, none, .mov (.tmp 6)⟩,
 ⟨some 21, none, .iad 1 (.tmp 19) (.tmp 20)⟩,
 ⟨some 22, none, .ld1 (.tmp 21)⟩,
 ⟨some 23, none, .app 6 48 (.tmp 18) (.tmp 22)⟩,
 ⟨some 5, none, .mov (.tmp 23)⟩]))
 (.ops [⟨some 16, none, .mov (.tmp 6)⟩,
 ⟨some 17, none, .bin .add (.tmp 16) (.const (.int .i64 1))⟩,
 ⟨some 6, none, .mov (.tmp 17)⟩]))))))
 (.seq (.ops [⟨some 24, none, .mov (.tmp 5)⟩,
 ⟨some 4, none, .mov (.tmp 24)⟩])
 .ret)))))⟩
theorem ok5 : compF Tryz.prog Tryz.f5 = some c5 := by kernel_rfl
def c6 : CF := ⟨9, [.tmp 4],
 (.seq (.ops [⟨some 4, none, .mov (.const (.slice none 0 0))⟩])
 (.seq (.ops [⟨some 5, none, .mov (.tmp 0)⟩,
 ⟨some 6, none, .agg [(.int .i64 0), (.int .i64 0), (.int .i64 0), (.string ⟨#[]⟩), (.int .i32 0), (.int .i32 0)] [(0, 1, (.const (.int .i64 9))), (4, 1, (.tmp 5))]⟩,
 ⟨some 7, none, .mov (.tmp 1)⟩,
 ⟨some 8, none, .call (.func 5) [(.tmp 6), (.tmp 7)]⟩,
 ⟨some 4, none, .mov (.tmp 8)⟩])
 .ret))⟩
theorem ok6 : compF Tryz.prog Tryz.f6 = some c6 := by kernel_rfl
def c7 : CF := ⟨13, [.tmp 6],
 (.seq (.ops [⟨some 6, none, .mov (.const (.slice none 0 0))⟩])
 (.seq (.ops [⟨some 7, none, .mov (.tmp 1)⟩,
 ⟨some 8, none, .mov (.tmp 0)⟩,
 ⟨some 9, none, .agg [(.int .i64 0), (.int .i64 0), (.int .i64 0), (.string ⟨#[]⟩), (.int .i32 0), (.int .i32 0)] [(0, 1, (.const (.int .i64 8))), (2, 1, (.tmp 7)), (4, 1, (.tmp 8))]⟩,
 ⟨some 10, none, .mov (.tmp 2)⟩,
 ⟨some 11, none, .lits [(.slice none 0 0)] 1 [(0, 1, (.tmp 10))]⟩,
 ⟨some 12, none, .call (.func 5) [(.tmp 9), (.tmp 11)]⟩,
 ⟨some 6, none, .mov (.tmp 12)⟩])
 .ret))⟩
theorem ok7 : compF Tryz.prog Tryz.f7 = some c7 := by kernel_rfl
def c8 : CF := ⟨6, [.tmp 2],
 (.seq (.ops [⟨some 2, none, .mov (.const (.slice none 0 0))⟩])
 (.seq (.ops [⟨some 3, none, .mov (.tmp 0)⟩,
 ⟨some 4, none, .agg [(.int .i64 0), (.int .i64 0), (.int .i64 0), (.string ⟨#[]⟩), (.int .i32 0), (.int .i32 0)] [(0, 1, (.const (.int .i64 1))), (2, 1, (.tmp 3))]⟩,
 ⟨some 5, none, .call (.func 5) [(.tmp 4), (.const (.slice none 0 0))]⟩,
 ⟨some 2, none, .mov (.tmp 5)⟩])
 .ret))⟩
theorem ok8 : compF Tryz.prog Tryz.f8 = some c8 := by kernel_rfl
def c9 : CF := ⟨9, [.tmp 4],
 (.seq (.ops [⟨some 4, none, .mov (.const (.slice none 0 0))⟩])
 (.seq (.ops [⟨some 5, none, .mov (.tmp 0)⟩,
 ⟨some 6, none, .agg [(.int .i64 0), (.int .i64 0), (.int .i64 0), (.string ⟨#[]⟩), (.int .i64 0), (.int .i64 0), (.int .i64 0)] [(0, 1, (.tmp 5))]⟩,
 ⟨some 7, none, .mov (.tmp 1)⟩,
 ⟨some 8, none, .call (.func 16) [(.tmp 6), (.tmp 7)]⟩,
 ⟨some 4, none, .mov (.tmp 8)⟩])
 .ret))⟩
theorem ok9 : compF Tryz.prog Tryz.f9 = some c9 := by kernel_rfl
def c10 : CF := ⟨28, [.tmp 4],
 (.seq (.ops [⟨some 4, none, .mov (.const (.bool false))⟩])
 (.seq (.ops [⟨some 8, none, .mov (.tmp 0)⟩,
 ⟨some 9, none, .call (.func 17) [(.tmp 8)]⟩,
 ⟨some 7, none, .mov (.tmp 9)⟩,
 ⟨some 10, none, .ext (.tmp 7) 0⟩,
 ⟨some 11, none, .ext (.tmp 7) 1⟩,
 ⟨some 5, none, .newz [(.slice none 0 0), (.slice none 0 0)]⟩,
 ⟨none, none, .st 2 (.tmp 5) (.tmp 10)⟩,
 ⟨some 6, none, .mov (.tmp 11)⟩])
 (.seq (.ops [⟨some 12, none, .mov (.tmp 6)⟩,
 ⟨some 13, none, .bin .eql (.tmp 12) (.const (.int .i64 0))⟩,
 ⟨some 14, none, .mov (.tmp 13)⟩,
 ⟨some 15, (some (14, true)), .fad (.tmp 5) 0⟩,
 ⟨some 16, (some (14, true)), .ld1 (.tmp 15)⟩,
 ⟨some 17, (some (14, true)), .mov (.tmp 1)⟩,
 ⟨some 18, (some (14, true)), .call (.func 18) [(.tmp 16), (.tmp 17)]⟩,
 ⟨some 19, none, .pick (.tmp 14) (.tmp 18) (.const (.bool false))⟩,
 ⟨some 20, none, .mov (.tmp 19)⟩,
 ⟨some 21, (some (20, true)), .fad (.tmp 5) 1⟩,
 ⟨some 22, (some (20, true)), .ld1 (.tmp 21)⟩,
 ⟨some 23, (some (20, true)), .lnl (.tmp 22)⟩,
 ⟨some 24, (some (20, true)), .mov (.tmp 1)⟩,
 ⟨some 25, (some (20, true)), .lnl (.tmp 24)⟩,
 ⟨some 26, (some (20, true)), .bin .eql (.tmp 23) (.tmp 25)⟩,
 ⟨some 27, none, .pick (.tmp 20) (.tmp 26) (.const (.bool false))⟩,
 ⟨some 4, none, .mov (.tmp 27)⟩])
 .ret)))⟩
theorem ok10 : compF Tryz.prog Tryz.f10 = some c10 := by kernel_rfl
def c11 : CF := ⟨6, [.tmp 2],
 (.seq (.ops [⟨some 2, none, .mov (.const (.slice none 0 0))⟩])
 (.seq (.ops [⟨some 3, none, .mov (.tmp 0)⟩,
 ⟨some 4, none, .agg [(.int .i64 0), (.int .i64 0), (.int .i64 0), (.string ⟨#[]⟩), (.int .i32 0), (.int .i32 0)] [(0, 1, (.const (.int .i64 7))), (2, 1, (.tmp 3))]⟩,
 ⟨some 5, none, .call (.func 5) [(.tmp 4), (.const (.slice none 0 0))]⟩,
 ⟨some 2, none, .mov (.tmp 5)⟩])
 .ret))⟩
theorem ok11 : compF Tryz.prog Tryz.f11 = some c11 := by kernel_rfl
def c12 : CF := ⟨6, [.tmp 2],
 (.seq (.ops [⟨some 2, none, .mov (.const (.slice none 0 0))⟩])
 (.seq (.ops [⟨some 3, none, .mov (.tmp 0)⟩,
 ⟨some 4, none, .agg [(.int .i64 0), (.int .i64 0), (.int .i64 0), (.string ⟨#[]⟩), (.int .i64 0), (.int .i64 0), (.int .i64 0)] [(0, 1, (.const (.int .i64 9))), (2, 1, (.tmp 3)), (3, 1, (.const (.string ⟨#[118]⟩)))]⟩,
 ⟨some 5, none, .call (.func 16) [(.tmp 4), (.const (.slice none 0 0))]⟩,
 ⟨some 2, none, .mov (.tmp 5)⟩])
 .ret))⟩
theorem ok12 : compF Tryz.prog Tryz.f12 = some c12 := by kernel_rfl
def c13 : CF := ⟨6, [.tmp 2],
 (.seq (.ops [⟨some 2, none, .mov (.const (.slice none 0 0))⟩])
 (.seq (.ops [⟨some 3, none, .mov (.tmp 0)⟩,
 ⟨some 4, none, .agg [(.int .i64 0), (.int .i64 0), (.int .i64 0), (.string ⟨#[]⟩), (.int .i64 0), (.int .i64 0), (.int .i64 0)] [(0, 1, (.const (.int .i64 1))), (2, 1, (.tmp 3))]⟩,
 ⟨some 5, none, .call (.func 16) [(.tmp 4), (.const (.slice none 0 0))]⟩,
 ⟨some 2, none, .mov (.tmp 5)⟩])
 .ret))⟩
theorem ok13 : compF Tryz.prog Tryz.f13 = some c13 := by kernel_rfl
def c14 : CF := ⟨6, [.tmp 2],
 (.seq (.ops [⟨some 2, none, .mov (.const (.slice none 0 0))⟩])
 (.seq (.ops [⟨some 3, none, .mov (.tmp 0)⟩,
 ⟨some 4, none, .agg [(.int .i64 0), (.int .i64 0), (.int .i64 0), (.string ⟨#[]⟩), (.int .i64 0), (.int .i64 0), (.int .i64 0)] [(0, 1, (.const (.int .i64 6))), (2, 1, (.tmp 3)), (3, 1, (.const (.string ⟨#[118]⟩)))]⟩,
 ⟨some 5, none, .call (.func 16) [(.tmp 4), (.const (.slice none 0 0))]⟩,
 ⟨some 2, none, .mov (.tmp 5)⟩])
 .ret))⟩
theorem ok14 : compF Tryz.prog Tryz.f14 = some c14 := by kernel_rfl
def c15 : CF := ⟨12, [.tmp 2],
 (.seq (.ops [⟨some 2, none, .mov (.const (.bool false))⟩])
 (.seq (.ops [⟨some 6, none, .mov (.tmp 0)⟩,
 ⟨some 7, none, .call (.func 17) [(.tmp 6)]⟩,
 ⟨some 5, none, .mov (.tmp 7)⟩,
 ⟨some 8, none, .ext (.tmp 5) 0⟩,
 ⟨some 9, none, .ext (.tmp 5) 1⟩,
 ⟨some 3, none, .newz [(.slice none 0 0), (.slice none 0 0)]⟩,
 ⟨none, none, .st 2 (.tmp 3) (.tmp 8)⟩,
 ⟨some 4, none, .mov (.tmp 9)⟩])
 (.seq (.ops [⟨some 10, none, .mov (.tmp 4)⟩,
 ⟨some 11, none, .bin .eql (.tmp 10) (.const (.int .i64 6))⟩,
 ⟨some 2, none, .mov (.tmp 11)⟩])
 .ret)))⟩
theorem ok15 : compF Tryz.prog Tryz.f15 = some c15 := by kernel_rfl
def c16 : CF := ⟨25, [.tmp 4],
 (.seq (.ops [⟨some 2, none, .box (.tmp 0)⟩,
 ⟨some 4, none, .mov (.const (.slice none 0 0))⟩])
 (.seq (.ops [⟨some 7, none, .mov (.tmp 1)⟩,
 ⟨some 8, none, .lnl (.tmp 7)⟩,
 ⟨some 9, none, .fad (.tmp 2) 1⟩,
 ⟨none, none, .st 1 (.tmp 9) (.tmp 8)⟩])
 (.seq (.ops [⟨some 10, none, .ld 7 (.tmp 2)⟩,
 ⟨some 11, none, .lits [(.int .i64 0), (.int .i64 0), (.int .i64 0), (.string ⟨#[]⟩), (.int .i64 0), (.int .i64 0), (.int .i64 0)] 1 [(0, 7, (.tmp 10))]⟩,
 ⟨some 5, none, .mov (.tmp 11)⟩])
 (.seq (.seq (.ops [⟨some 6, none, .mov (.const (.int .i64 0))⟩])
 (.block 0 (.loop (.seq (.seq (.ops [⟨some 12, none, .mov (.tmp 6)⟩,
 ⟨some 13, none, .mov (.tmp 1)⟩,
 ⟨some 14, none, .lnl (.tmp 13)⟩,
 ⟨some 15, none, .bin .lss (.tmp 12) (.tmp 14)⟩])
 (.cond (.tmp 15)
 .skip
 (.exit 0)))
 (.seq (.block 1 (.ops [⟨some 18, none, .mov (.tmp 5)⟩,
 ⟨some 19, none, .mov (.tmp 1)⟩,
 ⟨some 20, none, .mov (.tmp 6)⟩,
 ⟨some 21, none, .iad 1 (.tmp 19) (.tmp 20)⟩,
 ⟨some 22, none, .ld1 (.tmp 21)⟩,
 ⟨some 23, none, .app 7 64 (.tmp 18) (.tmp 22)⟩,
 ⟨some 5, none, .mov (.tmp 23)⟩]))
 (.ops [⟨some 16, none, .mov (.tmp 6)⟩,
 ⟨some 17, none, .bin .add (.tmp 16) (.const (.int .i64 1))⟩,
 ⟨some 6, none, .mov (.tmp 17)⟩]))))))
 (.seq (.ops [⟨some 24, none, .mov (.tmp 5)⟩,
 ⟨some 4, none, .mov (.tmp 24)⟩])
 .ret)))))⟩
theorem ok16 : compF Tryz.prog Tryz.f16 = some c16 := by kernel_rfl
def c17 : CF := ⟨23, [.cells 2 2, .tmp 3],
 (.seq (.ops [⟨some 2, none, .newz [(.slice none 0 0), (.slice none 0 0)]⟩,
 ⟨some 3, none, .mov (.const (.int .i64 0))⟩])
 (.seq (.ops [⟨some 7, none, .mov (.tmp 0)⟩,
 ⟨some 8, none, .call (.func 19) [(.tmp 7)]⟩,
 ⟨some 6, none, .mov (.tmp 8)⟩,
 ⟨some 9, none, .ext (.tmp 6) 0⟩,
 ⟨some 10, none, .ext (.tmp 6) 1⟩,
 ⟨some 4, none, .mov (.tmp 9)⟩,
 ⟨some 5, none, .mov (.tmp 10)⟩])
 (.seq (.seq (.ops [⟨some 11, none, .mov (.tmp 5)⟩,
 ⟨some 12, none, .bin .neq (.tmp 11) (.const (.int .i64 0))⟩])
 (.cond (.tmp 12)
 (.seq (.ops [⟨some 13, none, .agg [(.slice none 0 0), (.slice none 0 0)] []⟩,
 ⟨some 14, none, .mov (.tmp 5)⟩,
 ⟨none, none, .st 2 (.tmp 2) (.tmp 13)⟩,
 ⟨some 3, none, .mov (.tmp 14)⟩])
 .ret)
 .skip))
 (.seq (.seq (.ops [⟨some 15, none, .mov (.tmp 4)⟩,
 ⟨some 16, none, .call (.func 20) [(.tmp 15)]⟩,
 ⟨some 17, none, .un .not (.tmp 16)⟩])
 (.cond (.tmp 17)
 (.seq (.ops [⟨some 18, none, .agg [(.slice none 0 0), (.slice none 0 0)] []⟩,
 ⟨none, none, .st 2 (.tmp 2) (.tmp 18)⟩,
 ⟨some 3, none, .mov (.const (.int .i64 6))⟩])
 .ret)
 .skip))
 (.seq (.ops [⟨some 19, none, .mov (.tmp 4)⟩,
 ⟨some 20, none, .nilck (.tmp 19)⟩,
 ⟨some 21, none, .fad (.tmp 20) 3⟩,
 ⟨some 22, none, .ld 2 (.tmp 21)⟩,
 ⟨none, none, .st 2 (.tmp 2) (.tmp 22)⟩,
 ⟨some 3, none, .mov (.const (.int .i64 0))⟩])
 .ret)))))⟩
theorem ok17 : compF Tryz.prog Tryz.f17 = some c17 := by kernel_rfl
def c18 : CF := ⟨26, [.tmp 4],
 (.seq (.ops [⟨some 4, none, .mov (.const (.bool false))⟩])
 (.seq (.seq (.ops [⟨some 6, none, .mov (.tmp 0)⟩,
 ⟨some 7, none, .lnl (.tmp 6)⟩,
 ⟨some 8, none, .mov (.tmp 1)⟩,
 ⟨some 9, none, .lnl (.tmp 8)⟩,
 ⟨some 10, none, .bin .neq (.tmp 7) (.tmp 9)⟩])
 (.cond (.tmp 10)
 (.seq (.ops [⟨some 4, none, .mov (.const (.bool false))⟩])
 .ret)
 .skip))
 (.seq (.seq (.ops [⟨some 5, none, .mov (.const (.int .i64 0))⟩])
 (.block 0 (.loop (.seq (.seq (.ops [⟨some 11, none, .mov (.tmp 5)⟩,
 ⟨some 12, none, .mov (.tmp 0)⟩,
 ⟨some 13, none, .lnl (.tmp 12)⟩,
 ⟨some 14, none, .bin .lss (.tmp 11) (.tmp 13)⟩])
 (.cond (.tmp 14)
 .skip
 (.exit 0)))
 (.seq (.block 1 (.seq (.draw [⟨some 17, none, .mov (.tmp 0)⟩,
 ⟨some 18, none, .mov (.tmp 5)⟩,
 ⟨some 19, none, .iad 7 (.tmp 17) (.tmp 18)⟩,
 ⟨some 20, none, .ld 7 (.tmp 19)⟩,
 ⟨some 21, none, .mov (.tmp 1)⟩,
 ⟨some 22, none, .mov (.tmp 5)⟩,
 ⟨some 23, none, .iad 7 (.tmp 21) (.tmp 22)⟩,
 ⟨some 24, none, .ld 7 (.tmp 23)⟩,
 ⟨some 25, none, .eqc true [0, 0, 0, 1, 0, 0, 0] (.tmp 20) (.tmp 24)⟩] [(0, 1), (0, 4), (1, 4), (2, 4), (3, 4), (0, 5), (1, 5), (2, 5), (3, 5), (4, 5), (0, 6), (1, 6), (2, 6), (3, 6), (0, 7), (1, 7), (2, 7), (3, 7)])
 (.cond (.tmp 25)
 (.seq (.ops [⟨some 4, none, .mov (.const (.bool false))⟩])
 .ret)
 .skip)))
 (.ops [⟨some 15, none, .mov (.tmp 5)⟩,
 ⟨some 16, none, .bin .add (.tmp 15) (.const (.int .i64 1))⟩,
 ⟨some 5, none, .mov (.tmp 16)⟩]))))))
 (.seq (.ops [⟨some 4, none, .mov (.const (.bool true))⟩])
 .ret))))⟩
theorem ok18 : compF Tryz.prog Tryz.f18 = some c18 := by kernel_rfl
def c19 : CF := ⟨134, [.tmp 2, .tmp 3],
 (.seq (.ops [⟨some 2, none, .mov (.const (.pointer none))⟩,
 ⟨some 3, none, .mov (.const (.int .i64 0))⟩])
 (.seq (.seq (.ops [⟨some 13, none, .mov (.tmp 0)⟩,
 ⟨some 14, none, .call (.func 21) [(.tmp 13), (.const (.bool false))]⟩,
 ⟨some 12, none, .mov (.tmp 14)⟩,
 ⟨some 15, none, .ext (.tmp 12) 0⟩,
 ⟨some 16, none, .ext (.tmp 12) 1⟩,
 ⟨some 4, none, .mov (.tmp 15)⟩,
 ⟨some 5, none, .mov (.tmp 16)⟩])
 (.seq (.ops [⟨some 17, none, .mov (.tmp 5)⟩,
 ⟨some 18, none, .bin .neq (.tmp 17) (.const (.int .i64 0))⟩])
 (.cond (.tmp 18)
 (.seq (.ops [⟨some 19, none, .mov (.tmp 5)⟩,
 ⟨some 2, none, .mov (.const (.pointer none))⟩,
 ⟨some 3, none, .mov (.tmp 19)⟩])
 .ret)
 .skip)))
 (.seq (.seq (.ops [⟨some 21, none, .mov (.tmp 0)⟩,
 ⟨some 22, none, .call (.func 22) [(.tmp 21), (.const (.bool false))]⟩,
 ⟨some 20, none, .mov (.tmp 22)⟩,
 ⟨some 23, none, .ext (.tmp 20) 0⟩,
 ⟨some 24, none, .ext (.tmp 20) 1⟩,
 ⟨some 6, none, .mov (.tmp 23)⟩,
 ⟨some 7, none, .mov (.tmp 24)⟩])
 (.seq (.ops [⟨some 25, none, .mov (.tmp 6)⟩,
 ⟨some 26, none, .lnl (.tmp 25)⟩,
 ⟨some 27, none, .bin .gtr (.tmp 26) (.const (.int .i64 0))⟩])
 (.cond (.tmp 27)
 (.seq (.ops [⟨some 2, none, .mov (.const (.pointer none))⟩,
 ⟨some 3, none, .mov (.const (.int .i64 10))⟩])
 .ret)
 .skip)))
 (.seq (.draw [⟨some 28, none, .mov (.tmp 0)⟩,
 ⟨some 29, none, .mov (.tmp 0)⟩,
 ⟨some 30, none, .lnl (.tmp 29)⟩,
 ⟨some 31, none, .mks 8 [(.int .i64 0)] (.tmp 30) (.tmp 30)⟩,
 ⟨some 32, none, .mov (.tmp 0)⟩,
 ⟨some 33, none, .lnl (.tmp 32)⟩,
 ⟨some 34, none, .mks 1 [(.bool false)] (.tmp 33) (.tmp 33)⟩,
 ⟨some 35, none, .agg [(.slice none 0 0), (.slice none 0 0), (.slice none 0 0), (.slice none 0 0), (.slice none 0 0), (.int .i64 0)] [(0, 1, (.tmp 28)), (1, 1, (.tmp 31)), (2, 1, (.tmp 34))]⟩,
 ⟨some 36, none, .box (.tmp 35)⟩,
 ⟨some 8, none, .mov (.tmp 36)⟩] [(0, 1), (0, 2), (0, 3), (0, 4), (1, 4), (2, 4), (3, 4), (0, 5), (1, 5), (2, 5), (3, 5), (0, 6), (1, 6), (2, 6), (3, 6)])
 (.seq (.seq (.ops [⟨some 37, none, .mov (.tmp 0)⟩,
 ⟨some 38, none, .lnl (.tmp 37)⟩,
 ⟨some 39, none, .bin .sub (.tmp 38) (.const (.int .i64 1))⟩,
 ⟨some 9, none, .mov (.tmp 39)⟩])
 (.block 0 (.loop (.seq (.seq (.ops [⟨some 40, none, .mov (.tmp 9)⟩,
 ⟨some 41, none, .bin .geq (.tmp 40) (.const (.int .i64 0))⟩])
 (.cond (.tmp 41)
 .skip
 (.exit 0)))
 (.seq (.block 1 (.seq (.ops [⟨some 44, none, .mov (.tmp 9)⟩,
 ⟨some 45, none, .bin .add (.tmp 44) (.const (.int .i64 1))⟩,
 ⟨some 10, none, .mov (.tmp 45)⟩])
 (.seq (.seq (.ops [⟨some 46, none, .mov (.tmp 0)⟩,
 ⟨some 47, none, .mov (.tmp 9)⟩,
 ⟨some 48, none, .iad 6 (.tmp 46) (.tmp 47)⟩,
 ⟨some 49, none, .fad (.tmp 48) 1⟩,
 ⟨some 50, none, .ld1 (.tmp 49)⟩,
 ⟨some 51, none, .mov (.const (.int .i64 0))⟩])
 (.block 2 (.loop (.seq (.ops [⟨some 52, none, .bin .lss (.tmp 51) (.tmp 50)⟩])
 (.seq (.cond (.tmp 52)
 .skip
 (.exit 2))
 (.seq (.block 3 (.ops [⟨some 53, none, .mov (.tmp 8)⟩,
 ⟨some 54, none, .nilck (.tmp 53)⟩,
 ⟨some 55, none, .fad (.tmp 54) 1⟩,
 ⟨some 56, none, .ld1 (.tmp 55)⟩,
 ⟨some 57, none, .mov (.tmp 10)⟩,
 ⟨some 58, none, .iad 1 (.tmp 56) (.tmp 57)⟩,
 ⟨some 59, none, .ld1 (.tmp 58)⟩,
 ⟨some 10, none, .mov (.tmp 59)⟩]))
 (.ops [⟨some 60, none, .bin .add (.tmp 51) (.const (.int .i64 1))⟩,
 ⟨some 51, none, .mov (.tmp 60)⟩])))))))
 (.seq (.ops [⟨some 61, none, .mov (.tmp 8)⟩,
 ⟨some 62, none, .nilck (.tmp 61)⟩,
 ⟨some 63, none, .fad (.tmp 62) 1⟩,
 ⟨some 64, none, .ld1 (.tmp 63)⟩,
 ⟨some 65, none, .mov (.tmp 9)⟩,
 ⟨some 66, none, .mov (.tmp 10)⟩,
 ⟨some 67, none, .iad 1 (.tmp 64) (.tmp 65)⟩,
 ⟨none, none, .st 1 (.tmp 67) (.tmp 66)⟩])
 (.seq (.ops [⟨some 68, none, .mov (.tmp 0)⟩,
 ⟨some 69, none, .mov (.tmp 9)⟩,
 ⟨some 70, none, .iad 6 (.tmp 68) (.tmp 69)⟩,
 ⟨some 71, none, .fad (.tmp 70) 0⟩,
 ⟨some 72, none, .ld1 (.tmp 71)⟩])
 (.block 4 (.seq (.seq (.ops [⟨some 74, none, .bin .eql (.tmp 72) (.const (.int .i64 1))⟩,
 ⟨some 73, none, .mov (.tmp 74)⟩])
 (.cond (.tmp 73)
 .skip
 (.seq (.ops [⟨some 75, none, .bin .eql (.tmp 72) (.const (.int .i64 2))⟩,
 ⟨some 73, none, .mov (.tmp 75)⟩])
 (.cond (.tmp 73)
 .skip
 (.seq (.ops [⟨some 76, none, .bin .eql (.tmp 72) (.const (.int .i64 3))⟩,
 ⟨some 73, none, .mov (.tmp 76)⟩])
 (.cond (.tmp 73)
 .skip
 (.ops [⟨some 77, none, .bin .eql (.tmp 72) (.const (.int .i64 4))⟩,
 ⟨some 73, none, .mov (.tmp 77)⟩])))))))
 (.cond (.tmp 73)
 (.ops [⟨some 78, none, .mov (.tmp 8)⟩,
 ⟨some 79, none, .nilck (.tmp 78)⟩,
 ⟨some 80, none, .fad (.tmp 79) 2⟩,
 ⟨some 81, none, .ld1 (.tmp 80)⟩,
 ⟨some 82, none, .mov (.tmp 9)⟩,
 ⟨some 83, none, .iad 1 (.tmp 81) (.tmp 82)⟩,
 ⟨none, none, .st 1 (.tmp 83) (.const (.bool true))⟩])
 (.seq (.ops [⟨some 85, none, .bin .eql (.tmp 72) (.const (.int .i64 5))⟩,
 ⟨some 84, none, .mov (.tmp 85)⟩])
 (.cond (.tmp 84)
 (.seq (.ops [⟨some 86, none, .mov (.tmp 8)⟩,
 ⟨some 87, none, .nilck (.tmp 86)⟩,
 ⟨some 88, none, .fad (.tmp 87) 1⟩,
 ⟨some 89, none, .ld1 (.tmp 88)⟩,
 ⟨some 90, none, .mov (.tmp 9)⟩,
 ⟨some 91, none, .bin .add (.tmp 90) (.const (.int .i64 1))⟩,
 ⟨some 92, none, .iad 1 (.tmp 89) (.tmp 91)⟩,
 ⟨some 93, none, .ld1 (.tmp 92)⟩,
 ⟨some 11, none, .mov (.tmp 93)⟩])
 (.draw [⟨some 94, none, .mov (.tmp 8)⟩,
 ⟨some 95, none, .nilck (.tmp 94)⟩,
 ⟨some 96, none, .fad (.tmp 95) 2⟩,
 ⟨some 97, none, .ld1 (.tmp 96)⟩,
 ⟨some 98, none, .mov (.tmp 9)⟩,
 ⟨some 99, none, .mov (.tmp 8)⟩,
 ⟨some 100, none, .nilck (.tmp 99)⟩,
 ⟨some 101, none, .fad (.tmp 100) 2⟩,
 ⟨some 102, none, .ld1 (.tmp 101)⟩,
 ⟨some 103, none, .mov (.tmp 9)⟩,
 ⟨some 104, none, .bin .add (.tmp 103) (.const (.int .i64 1))⟩,
 ⟨some 105, none, .iad 1 (.tmp 102) (.tmp 104)⟩,
 ⟨some 106, none, .ld1 (.tmp 105)⟩,
 ⟨some 107, none, .mov (.tmp 106)⟩,
 ⟨some 108, (some (107, true)), .mov (.tmp 8)⟩,
 ⟨some 109, (some (107, true)), .nilck (.tmp 108)⟩,
 ⟨some 110, (some (107, true)), .fad (.tmp 109) 2⟩,
 ⟨some 111, (some (107, true)), .ld1 (.tmp 110)⟩,
 ⟨some 112, (some (107, true)), .mov (.tmp 11)⟩,
 ⟨some 113, (some (107, true)), .iad 1 (.tmp 111) (.tmp 112)⟩,
 ⟨some 114, (some (107, true)), .ld1 (.tmp 113)⟩,
 ⟨some 115, none, .pick (.tmp 107) (.tmp 114) (.const (.bool false))⟩,
 ⟨some 116, none, .mov (.tmp 115)⟩,
 ⟨some 117, (some (116, true)), .mov (.tmp 0)⟩,
 ⟨some 118, (some (116, true)), .mov (.tmp 11)⟩,
 ⟨some 119, (some (116, true)), .iad 6 (.tmp 117) (.tmp 118)⟩,
 ⟨some 120, (some (116, true)), .fad (.tmp 119) 0⟩,
 ⟨some 121, (some (116, true)), .ld1 (.tmp 120)⟩,
 ⟨some 122, (some (116, true)), .bin .eql (.tmp 121) (.const (.int .i64 4))⟩,
 ⟨some 123, (some (116, true)), .mov (.tmp 122)⟩,
 ⟨some 124, (some (123, false)), .mov (.tmp 0)⟩,
 ⟨some 125, (some (123, false)), .mov (.tmp 11)⟩,
 ⟨some 126, (some (123, false)), .iad 6 (.tmp 124) (.tmp 125)⟩,
 ⟨some 127, (some (123, false)), .fad (.tmp 126) 0⟩,
 ⟨some 128, (some (123, false)), .ld1 (.tmp 127)⟩,
 ⟨some 129, (some (123, false)), .bin .eql (.tmp 128) (.const (.int .i64 5))⟩,
 ⟨some 130, (some (116, true)), .pick (.tmp 123) (.const (.bool true)) (.tmp 129)⟩,
 ⟨some 131, none, .pick (.tmp 116) (.tmp 130) (.const (.bool false))⟩,
 ⟨some 132, none, .iad 1 (.tmp 97) (.tmp 98)⟩,
 ⟨none, none, .st 1 (.tmp 132) (.tmp 131)⟩] [(0, 4), (1, 4), (2, 4), (3, 4), (0, 5), (1, 5), (2, 5), (3, 5), (4, 5), (0, 6), (1, 6), (2, 6), (3, 6), (4, 6), (0, 7), (1, 7), (2, 7), (3, 7), (4, 7), (0, 8), (1, 8), (2, 8), (3, 8), (4, 8), (0, 9), (1, 9), (2, 9), (3, 9), (4, 9), (5, 9), (6, 9), (7, 9), (8, 9), (0, 10), (1, 10), (2, 10), (3, 10), (4, 10), (5, 10), (6, 10), (7, 10), (8, 10), (0, 11), (1, 11), (2, 11), (3, 11), (4, 11), (0, 12), (1, 12), (2, 12), (3, 12), (4, 12), (0, 13), (1, 13), (2, 13), (3, 13), (4, 13), (0, 14), (1, 14), (2, 14), (3, 14), (4, 14), (0, 15), (1, 15), (2, 15), (3, 15), (4, 15), (0, 16), (1, 16), (2, 16), (3, 16), (4, 16), (0, 17), (1, 17), (2, 17), (3, 17), (4, 17), (0, 18), (1, 18), (2, 18), (3, 18), (4, 18), (14, 18), (15, 18), (16, 18), (17, 18), (0, 19), (1, 19), (2, 19), (3, 19), (4, 19), (0, 20), (1, 20), (2, 20), (3, 20), (4, 20), (0, 21), (1, 21), (2, 21), (3, 21), (4, 21), (0, 22), (1, 22), (2, 22), (3, 22), (4, 22), (0, 23), (1, 23), (2, 23), (3, 23), (4, 23), (0, 24), (1, 24), (2, 24), (3, 24), (4, 24), (23, 24), (0, 25), (1, 25), (2, 25), (3, 25), (4, 25), (0, 26), (1, 26), (2, 26), (3, 26), (4, 26), (0, 27), (1, 27), (2, 27), (3, 27), (4, 27), (0, 28), (1, 28), (2, 28), (3, 28), (4, 28), (0, 29), (1, 29), (2, 29), (3, 29), (4, 29), (0, 30), (1, 30), (2, 30), (3, 30), (4, 30), (0, 31), (1, 31), (2, 31), (3, 31), (4, 31), (30, 31), (0, 32), (1, 32), (2, 32), (3, 32), (4, 32), (0, 33), (1, 33), (2, 33), (3, 33), (4, 33), (0, 34), (1, 34), (2, 34), (3, 34), (4, 34), (0, 35), (1, 35), (2, 35), (3, 35), (4, 35), (0, 36), (1, 36), (2, 36), (3, 36), (4, 36), (0, 37), (1, 37), (2, 37), (3, 37), (4, 37)]))
 .skip))))))))))
 (.ops [⟨some 42, none, .mov (.tmp 9)⟩,
 ⟨some 43, none, .bin .sub (.tmp 42) (.const (.int .i64 1))⟩,
 ⟨some 9, none, .mov (.tmp 43)⟩]))))))
 (.seq (.ops [⟨some 133, none, .mov (.tmp 8)⟩,
 ⟨some 2, none, .mov (.tmp 133)⟩,
 ⟨some 3, none, .mov (.const (.int .i64 0))⟩])
 .ret))))))⟩
theorem ok19 : compF Tryz.prog Tryz.f19 = some c19 := by kernel_rfl
def c21 : CF := ⟨128, [.tmp 4, .tmp 5],
 (.seq (.ops [⟨some 4, none, .mov (.const (.int .i64 0))⟩,
 ⟨some 5, none, .mov (.const (.int .i64 0))⟩])
 (.seq (.block 0 (.seq (.ops [⟨some 15, none, .mov (.tmp 0)⟩,
 ⟨some 16, none, .lnl (.tmp 15)⟩,
 ⟨some 17, none, .bin .eql (.tmp 16) (.const (.int .i64 0))⟩,
 ⟨some 14, none, .mov (.tmp 17)⟩])
 (.cond (.tmp 14)
 (.seq (.ops [⟨some 4, none, .mov (.const (.int .i64 0))⟩,
 ⟨some 5, none, .mov (.const (.int .i64 6))⟩])
 .ret)
 (.seq (.ops [⟨some 19, none, .mov (.tmp 0)⟩,
 ⟨some 20, none, .lnl (.tmp 19)⟩,
 ⟨some 21, none, .bin .gtr (.tmp 20) (.const (.int .i64 2000))⟩,
 ⟨some 18, none, .mov (.tmp 21)⟩])
 (.cond (.tmp 18)
 (.seq (.ops [⟨some 4, none, .mov (.const (.int .i64 0))⟩,
 ⟨some 5, none, .mov (.const (.int .i64 3))⟩])
 .ret)
 .skip)))))
 (.seq (.ops [⟨some 22, none, .lits [(.int .i64 0)] 1 [(0, 1, (.const (.int .i64 1)))]⟩,
 ⟨some 6, none, .mov (.tmp 22)⟩])
 (.seq (.seq (.ops [⟨some 23, none, .mov (.tmp 0)⟩,
 ⟨some 24, none, .lnl (.tmp 23)⟩,
 ⟨some 25, none, .mov (.const (.int .i64 0))⟩])
 (.block 1 (.loop (.seq (.ops [⟨some 26, none, .bin .lss (.tmp 25) (.tmp 24)⟩])
 (.seq (.cond (.tmp 26)
 .skip
 (.exit 1))
 (.seq (.block 2 (.seq (.ops [⟨some 27, none, .mov (.tmp 25)⟩,
 ⟨some 28, none, .iad 6 (.tmp 23) (.tmp 25)⟩,
 ⟨some 29, none, .ld 6 (.tmp 28)⟩,
 ⟨some 8, none, .newz [(.int .i64 0), (.int .i64 0), (.int .i64 0), (.string ⟨#[]⟩), (.int .i32 0), (.int .i32 0)]⟩,
 ⟨some 7, none, .mov (.tmp 27)⟩,
 ⟨none, none, .st 6 (.tmp 8) (.tmp 29)⟩])
 (.seq (.block 3 (.loop (.seq (.seq (.ops [⟨some 30, none, .mov (.tmp 6)⟩,
 ⟨some 31, none, .lnl (.tmp 30)⟩,
 ⟨some 32, none, .bin .gtr (.tmp 31) (.const (.int .i64 0))⟩,
 ⟨some 33, none, .mov (.tmp 32)⟩,
 ⟨some 34, (some (33, true)), .mov (.tmp 6)⟩,
 ⟨some 35, (some (33, true)), .mov (.tmp 6)⟩,
 ⟨some 36, (some (33, true)), .lnl (.tmp 35)⟩,
 ⟨some 37, (some (33, true)), .bin .sub (.tmp 36) (.const (.int .i64 1))⟩,
 ⟨some 38, (some (33, true)), .iad 1 (.tmp 34) (.tmp 37)⟩,
 ⟨some 39, (some (33, true)), .ld1 (.tmp 38)⟩,
 ⟨some 40, (some (33, true)), .bin .eql (.tmp 39) (.const (.int .i64 0))⟩,
 ⟨some 41, none, .pick (.tmp 33) (.tmp 40) (.const (.bool false))⟩])
 (.cond (.tmp 41)
 .skip
 (.exit 3)))
 (.block 4 (.ops [⟨some 42, none, .mov (.tmp 6)⟩,
 ⟨some 43, none, .mov (.tmp 6)⟩,
 ⟨some 44, none, .lnl (.tmp 43)⟩,
 ⟨some 45, none, .bin .sub (.tmp 44) (.const (.int .i64 1))⟩,
 ⟨some 46, none, .sl 1 (.tmp 42) none (some (.tmp 45)) none⟩,
 ⟨some 6, none, .mov (.tmp 46)⟩])))))
 (.seq (.block 5 (.seq (.ops [⟨some 48, none, .mov (.tmp 6)⟩,
 ⟨some 49, none, .lnl (.tmp 48)⟩,
 ⟨some 50, none, .bin .eql (.tmp 49) (.const (.int .i64 0))⟩,
 ⟨some 51, none, .mov (.tmp 50)⟩,
 ⟨some 52, (some (51, false)), .fad (.tmp 8) 0⟩,
 ⟨some 53, (some (51, false)), .ld1 (.tmp 52)⟩,
 ⟨some 54, (some (51, false)), .bin .lss (.tmp 53) (.const (.int .i64 1))⟩,
 ⟨some 55, none, .pick (.tmp 51) (.const (.bool true)) (.tmp 54)⟩,
 ⟨some 56, none, .mov (.tmp 55)⟩,
 ⟨some 57, (some (56, false)), .fad (.tmp 8) 0⟩,
 ⟨some 58, (some (56, false)), .ld1 (.tmp 57)⟩,
 ⟨some 59, (some (56, false)), .bin .gtr (.tmp 58) (.const (.int .i64 12))⟩,
 ⟨some 60, none, .pick (.tmp 56) (.const (.bool true)) (.tmp 59)⟩,
 ⟨some 61, none, .mov (.tmp 60)⟩,
 ⟨some 62, (some (61, false)), .fad (.tmp 8) 1⟩,
 ⟨some 63, (some (61, false)), .ld1 (.tmp 62)⟩,
 ⟨some 64, (some (61, false)), .bin .lss (.tmp 63) (.const (.int .i64 0))⟩,
 ⟨some 65, none, .pick (.tmp 61) (.const (.bool true)) (.tmp 64)⟩,
 ⟨some 47, none, .mov (.tmp 65)⟩])
 (.cond (.tmp 47)
 (.seq (.ops [⟨some 66, none, .mov (.tmp 7)⟩,
 ⟨some 4, none, .mov (.tmp 66)⟩,
 ⟨some 5, none, .mov (.const (.int .i64 6))⟩])
 .ret)
 (.seq (.ops [⟨some 68, none, .mov (.tmp 6)⟩,
 ⟨some 69, none, .lnl (.tmp 68)⟩,
 ⟨some 70, none, .bin .gtr (.tmp 69) (.const (.int .i64 201))⟩,
 ⟨some 67, none, .mov (.tmp 70)⟩])
 (.cond (.tmp 67)
 (.seq (.ops [⟨some 71, none, .mov (.tmp 7)⟩,
 ⟨some 4, none, .mov (.tmp 71)⟩,
 ⟨some 5, none, .mov (.const (.int .i64 3))⟩])
 .ret)
 .skip)))))
 (.seq (.seq (.ops [⟨some 72, none, .ld 6 (.tmp 8)⟩,
 ⟨some 73, none, .call (.func 26) [(.tmp 72)]⟩,
 ⟨some 9, none, .mov (.tmp 73)⟩])
 (.seq (.ops [⟨some 74, none, .mov (.tmp 9)⟩,
 ⟨some 75, none, .bin .neq (.tmp 74) (.const (.int .i64 0))⟩])
 (.cond (.tmp 75)
 (.seq (.ops [⟨some 76, none, .mov (.tmp 7)⟩,
 ⟨some 77, none, .mov (.tmp 9)⟩,
 ⟨some 4, none, .mov (.tmp 76)⟩,
 ⟨some 5, none, .mov (.tmp 77)⟩])
 .ret)
 .skip)))
 (.seq (.seq (.ops [⟨some 78, none, .ld 6 (.tmp 8)⟩,
 ⟨some 79, none, .mov (.tmp 1)⟩,
 ⟨some 80, none, .call (.func 27) [(.tmp 78), (.tmp 79)]⟩,
 ⟨some 10, none, .mov (.tmp 80)⟩])
 (.seq (.ops [⟨some 81, none, .mov (.tmp 10)⟩,
 ⟨some 82, none, .bin .neq (.tmp 81) (.const (.int .i64 0))⟩])
 (.cond (.tmp 82)
 (.seq (.ops [⟨some 83, none, .mov (.tmp 7)⟩,
 ⟨some 84, none, .mov (.tmp 10)⟩,
 ⟨some 4, none, .mov (.tmp 83)⟩,
 ⟨some 5, none, .mov (.tmp 84)⟩])
 .ret)
 .skip)))
 (.seq (.ops [⟨some 85, none, .mov (.tmp 6)⟩,
 ⟨some 86, none, .mov (.tmp 6)⟩,
 ⟨some 87, none, .lnl (.tmp 86)⟩,
 ⟨some 88, none, .bin .sub (.tmp 87) (.const (.int .i64 1))⟩,
 ⟨some 89, none, .iad 1 (.tmp 85) (.tmp 88)⟩,
 ⟨some 90, none, .ld1 (.tmp 89)⟩,
 ⟨some 91, none, .bin .sub (.tmp 90) (.const (.int .i64 1))⟩,
 ⟨some 92, none, .iad 1 (.tmp 85) (.tmp 88)⟩,
 ⟨none, none, .st 1 (.tmp 92) (.tmp 91)⟩])
 (.ops [⟨some 93, none, .mov (.tmp 6)⟩,
 ⟨some 94, none, .fad (.tmp 8) 1⟩,
 ⟨some 95, none, .ld1 (.tmp 94)⟩,
 ⟨some 96, none, .lits [(.int .i64 0)] 1 [(0, 1, (.tmp 95))]⟩,
 ⟨some 97, none, .app 1 8 (.tmp 93) (.tmp 96)⟩,
 ⟨some 6, none, .mov (.tmp 97)⟩]))))))))
 (.ops [⟨some 98, none, .bin .add (.tmp 25) (.const (.int .i64 1))⟩,
 ⟨some 25, none, .mov (.tmp 98)⟩])))))))
 (.seq (.block 6 (.seq (.ops [⟨some 100, none, .mov (.tmp 6)⟩,
 ⟨some 101, none, .call (.func 28) [(.tmp 100)]⟩,
 ⟨some 102, none, .bin .gtr (.tmp 101) (.const (.int .i64 0))⟩,
 ⟨some 99, none, .mov (.tmp 102)⟩])
 (.cond (.tmp 99)
 (.seq (.ops [⟨some 103, none, .mov (.tmp 0)⟩,
 ⟨some 104, none, .lnl (.tmp 103)⟩,
 ⟨some 4, none, .mov (.tmp 104)⟩,
 ⟨some 5, none, .mov (.const (.int .i64 6))⟩])
 .ret)
 (.seq (.ops [⟨some 106, none, .mov (.tmp 0)⟩,
 ⟨some 107, none, .iad 6 (.tmp 106) (.const (.int .i64 0))⟩,
 ⟨some 108, none, .fad (.tmp 107) 0⟩,
 ⟨some 109, none, .ld1 (.tmp 108)⟩,
 ⟨some 110, none, .bin .eql (.tmp 109) (.const (.int .i64 12))⟩,
 ⟨some 105, none, .mov (.tmp 110)⟩])
 (.cond (.tmp 105)
 (.seq (.ops [⟨some 4, none, .mov (.const (.int .i64 0))⟩,
 ⟨some 5, none, .mov (.const (.int .i64 6))⟩])
 .ret)
 .skip)))))
 (.seq (.ops [⟨some 111, none, .mov (.tmp 0)⟩,
 ⟨some 112, none, .call (.func 29) [(.tmp 111)]⟩,
 ⟨some 11, none, .mov (.tmp 112)⟩])
 (.seq (.seq (.ops [⟨some 113, none, .mov (.tmp 0)⟩,
 ⟨some 114, none, .lnl (.tmp 113)⟩,
 ⟨some 115, none, .mov (.const (.int .i64 0))⟩])
 (.block 7 (.loop (.seq (.ops [⟨some 116, none, .bin .lss (.tmp 115) (.tmp 114)⟩])
 (.seq (.cond (.tmp 116)
 .skip
 (.exit 7))
 (.seq (.block 8 (.seq (.ops [⟨some 117, none, .mov (.tmp 115)⟩,
 ⟨some 12, none, .mov (.tmp 117)⟩])
 (.seq (.ops [⟨some 118, none, .mov (.tmp 0)⟩,
 ⟨some 119, none, .mov (.tmp 11)⟩,
 ⟨some 120, none, .mov (.tmp 12)⟩,
 ⟨some 121, none, .mov (.tmp 1)⟩,
 ⟨some 122, none, .call (.func 30) [(.tmp 118), (.tmp 119), (.tmp 120), (.tmp 121)]⟩,
 ⟨some 13, none, .mov (.tmp 122)⟩])
 (.seq (.ops [⟨some 123, none, .mov (.tmp 13)⟩,
 ⟨some 124, none, .bin .neq (.tmp 123) (.const (.int .i64 0))⟩])
 (.cond (.tmp 124)
 (.seq (.ops [⟨some 125, none, .mov (.tmp 12)⟩,
 ⟨some 126, none, .mov (.tmp 13)⟩,
 ⟨some 4, none, .mov (.tmp 125)⟩,
 ⟨some 5, none, .mov (.tmp 126)⟩])
 .ret)
 .skip)))))
 (.ops [⟨some 127, none, .bin .add (.tmp 115) (.const (.int .i64 1))⟩,
 ⟨some 115, none, .mov (.tmp 127)⟩])))))))
 (.seq (.ops [⟨some 4, none, .mov (.const (.int .i64 0))⟩,
 ⟨some 5, none, .mov (.const (.int .i64 0))⟩])
 .ret))))))))⟩
theorem ok21 : compF Tryz.prog Tryz.f21 = some c21 := by kernel_rfl
def c22 : CF := ⟨31, [.tmp 4, .tmp 5],
 (.seq (.ops [⟨some 2, none, .box (.tmp 0)⟩,
 ⟨some 3, none, .box (.tmp 1)⟩,
 ⟨some 4, none, .mov (.const (.slice none 0 0))⟩,
 ⟨some 5, none, .mov (.const (.int .i64 0))⟩])
 (.seq (.seq (.ops [⟨some 11, none, .ld1 (.tmp 2)⟩,
 ⟨some 12, none, .ld1 (.tmp 3)⟩,
 ⟨some 13, none, .call (.func 21) [(.tmp 11), (.tmp 12)]⟩,
 ⟨some 10, none, .mov (.tmp 13)⟩,
 ⟨some 14, none, .ext (.tmp 10) 0⟩,
 ⟨some 15, none, .ext (.tmp 10) 1⟩,
 ⟨some 6, none, .mov (.tmp 14)⟩,
 ⟨some 7, none, .mov (.tmp 15)⟩])
 (.seq (.ops [⟨some 16, none, .mov (.tmp 7)⟩,
 ⟨some 17, none, .bin .neq (.tmp 16) (.const (.int .i64 0))⟩])
 (.cond (.tmp 17)
 (.seq (.ops [⟨some 18, none, .mov (.tmp 7)⟩,
 ⟨some 4, none, .mov (.const (.slice none 0 0))⟩,
 ⟨some 5, none, .mov (.tmp 18)⟩])
 .ret)
 .skip)))
 (.seq (.ops [⟨some 8, none, .newz [(.slice none 0 0)]⟩])
 (.seq (.ops [⟨some 19, none, .mkm⟩,
 ⟨some 20, none, .agg [(.int .i64 0), (.map none)] [(1, 1, (.tmp 19))]⟩,
 ⟨some 21, none, .box (.tmp 20)⟩,
 ⟨some 9, none, .newz [(.pointer none)]⟩,
 ⟨none, none, .st 1 (.tmp 9) (.tmp 21)⟩])
 (.seq (.ops [⟨some 22, none, .ld1 (.tmp 2)⟩,
 ⟨some 23, none, .ld1 (.tmp 3)⟩,
 ⟨some 24, none, .ld1 (.tmp 9)⟩,
 ⟨some 25, none, .fn 32 [] [(.tmp 3), (.tmp 8), (.tmp 2), (.tmp 9)]⟩,
 ⟨some 26, none, .call (.func 31) [(.tmp 22), (.tmp 23), (.tmp 24), (.tmp 25)]⟩])
 (.seq (.ops [⟨some 27, none, .ld1 (.tmp 8)⟩,
 ⟨some 28, none, .call (.func 33) [(.tmp 27)]⟩])
 (.seq (.ops [⟨some 29, none, .ld1 (.tmp 8)⟩,
 ⟨some 30, none, .call (.func 34) [(.tmp 29)]⟩,
 ⟨some 4, none, .mov (.tmp 30)⟩,
 ⟨some 5, none, .mov (.const (.int .i64 0))⟩])
 .ret)))))))⟩
theorem ok22 : compF Tryz.prog Tryz.f22 = some c22 := by kernel_rfl
def c24 : CF := ⟨130, [],
 (.seq (.ops [⟨some 12, none, .mov (.tmp 0)⟩,
 ⟨some 13, none, .nilck (.tmp 12)⟩,
 ⟨some 14, none, .fad (.tmp 13) 0⟩,
 ⟨some 15, none, .ld1 (.tmp 14)⟩,
 ⟨some 16, none, .mov (.tmp 1)⟩,
 ⟨some 17, none, .iad 6 (.tmp 15) (.tmp 16)⟩,
 ⟨some 18, none, .ld 6 (.tmp 17)⟩,
 ⟨some 6, none, .newz [(.int .i64 0), (.int .i64 0), (.int .i64 0), (.string ⟨#[]⟩), (.int .i32 0), (.int .i32 0)]⟩,
 ⟨none, none, .st 6 (.tmp 6) (.tmp 18)⟩])
 (.seq (.seq (.ops [⟨some 19, none, .fad (.tmp 6) 4⟩,
 ⟨some 20, none, .ld1 (.tmp 19)⟩,
 ⟨some 21, none, .bin .neq (.tmp 20) (.const (.int .i32 0))⟩])
 (.cond (.tmp 21)
 (.seq (.ops [⟨some 22, none, .call (.func 35) []⟩,
 ⟨some 7, none, .newz [.nilFunc, .nilFunc, .nilFunc, .nilFunc, .nilFunc, .nilFunc, .nilFunc, .nilFunc, .nilFunc, .nilFunc, .nilFunc, .nilFunc, .nilFunc, .nilFunc, .nilFunc, .nilFunc, .nilFunc, .nilFunc, .nilFunc, .nilFunc, .nilFunc, .nilFunc, .nilFunc, .nilFunc, .nilFunc, .nilFunc, .nilFunc, .nilFunc, .nilFunc, .nilFunc, .nilFunc, .nilFunc, .nilFunc, .nilFunc]⟩,
 ⟨none, none, .st 34 (.tmp 7) (.tmp 22)⟩])
 (.seq (.ops [⟨some 23, none, .fad (.tmp 6) 4⟩,
 ⟨some 24, none, .ld1 (.tmp 23)⟩,
 ⟨some 25, none, .cvi .i64 (.tmp 24)⟩,
 ⟨some 26, none, .bin .lss (.tmp 25) (.const (.int .i64 34))⟩,
 ⟨some 27, none, .mov (.tmp 26)⟩,
 ⟨some 28, (some (27, true)), .fad (.tmp 6) 4⟩,
 ⟨some 29, (some (27, true)), .ld1 (.tmp 28)⟩,
 ⟨some 30, (some (27, true)), .iaa 34 1 (.tmp 7) (.tmp 29)⟩,
 ⟨some 31, (some (27, true)), .ld1 (.tmp 30)⟩,
 ⟨some 32, (some (27, true)), .eqn 3 true true (.tmp 31) (.const .nilFunc)⟩,
 ⟨some 33, none, .pick (.tmp 27) (.tmp 32) (.const (.bool false))⟩,
 ⟨some 34, none, .call (.func 36) [(.tmp 33)]⟩])
 (.seq (.ops [⟨some 35, none, .fad (.tmp 6) 4⟩,
 ⟨some 36, none, .ld1 (.tmp 35)⟩,
 ⟨some 37, none, .iaa 34 1 (.tmp 7) (.tmp 36)⟩,
 ⟨some 38, none, .ld1 (.tmp 37)⟩,
 ⟨some 39, none, .mov (.tmp 0)⟩,
 ⟨some 40, none, .mov (.tmp 1)⟩,
 ⟨some 41, none, .mov (.tmp 2)⟩,
 ⟨some 42, none, .call (.tmp 38) [(.tmp 39), (.tmp 40), (.tmp 41)]⟩])
 .ret)))
 .skip))
 (.seq (.ops [⟨some 43, none, .mov (.tmp 0)⟩,
 ⟨some 44, none, .mov (.tmp 1)⟩,
 ⟨some 45, none, .call (.func 37) [(.tmp 43), (.tmp 44)]⟩,
 ⟨some 8, none, .mov (.tmp 45)⟩])
 (.seq (.seq (.ops [⟨some 46, none, .fad (.tmp 6) 0⟩,
 ⟨some 47, none, .ld1 (.tmp 46)⟩])
 (.block 0 (.seq (.seq (.ops [⟨some 50, none, .bin .eql (.tmp 47) (.const (.int .i64 1))⟩,
 ⟨some 49, none, .mov (.tmp 50)⟩])
 (.cond (.tmp 49)
 .skip
 (.ops [⟨some 51, none, .bin .eql (.tmp 47) (.const (.int .i64 2))⟩,
 ⟨some 49, none, .mov (.tmp 51)⟩])))
 (.cond (.tmp 49)
 (.seq (.ops [⟨some 52, none, .mov (.tmp 0)⟩,
 ⟨some 53, none, .mov (.tmp 1)⟩,
 ⟨some 54, none, .call (.func 38) [(.tmp 52), (.tmp 53)]⟩])
 .ret)
 (.seq (.seq (.ops [⟨some 56, none, .bin .eql (.tmp 47) (.const (.int .i64 3))⟩,
 ⟨some 55, none, .mov (.tmp 56)⟩])
 (.cond (.tmp 55)
 .skip
 (.seq (.ops [⟨some 57, none, .bin .eql (.tmp 47) (.const (.int .i64 4))⟩,
 ⟨some 55, none, .mov (.tmp 57)⟩])
 (.cond (.tmp 55)
 .skip
 (.ops [⟨some 58, none, .bin .eql (.tmp 47) (.const (.int .i64 5))⟩,
 ⟨some 55, none, .mov (.tmp 58)⟩])))))
 (.cond (.tmp 55)
 (.seq (.ops [⟨some 59, none, .mov (.tmp 0)⟩,
 ⟨some 60, none, .mov (.tmp 1)⟩,
 ⟨some 61, none, .mov (.tmp 2)⟩,
 ⟨some 62, none, .call (.func 39) [(.tmp 59), (.tmp 60), (.tmp 61)]⟩])
 .ret)
 (.seq (.ops [⟨some 64, none, .bin .eql (.tmp 47) (.const (.int .i64 6))⟩,
 ⟨some 63, none, .mov (.tmp 64)⟩])
 (.cond (.tmp 63)
 (.seq (.ops [⟨some 65, none, .mov (.tmp 0)⟩,
 ⟨some 66, none, .fad (.tmp 6) 3⟩,
 ⟨some 67, none, .ld1 (.tmp 66)⟩,
 ⟨some 68, none, .agg [(.int .i64 0), (.int .i64 0), (.int .i64 0), (.string ⟨#[]⟩), (.int .i64 0), (.int .i64 0), (.int .i64 0)] [(0, 1, (.const (.int .i64 7))), (3, 1, (.tmp 67))]⟩,
 ⟨some 69, none, .mov (.tmp 1)⟩,
 ⟨some 70, none, .call (.func 40) [(.tmp 65), (.tmp 68), (.tmp 69)]⟩])
 .ret)
 (.seq (.ops [⟨some 72, none, .bin .eql (.tmp 47) (.const (.int .i64 7))⟩,
 ⟨some 71, none, .mov (.tmp 72)⟩])
 (.cond (.tmp 71)
 (.seq (.ops [⟨some 73, none, .mov (.tmp 2)⟩,
 ⟨some 74, none, .lnl (.tmp 73)⟩,
 ⟨some 75, none, .bin .sub (.tmp 74) (.const (.int .i64 1))⟩,
 ⟨some 76, none, .fad (.tmp 6) 2⟩,
 ⟨some 77, none, .ld1 (.tmp 76)⟩,
 ⟨some 78, none, .bin .sub (.tmp 75) (.tmp 77)⟩,
 ⟨some 9, none, .mov (.tmp 78)⟩])
 (.seq (.ops [⟨some 79, none, .mov (.tmp 9)⟩,
 ⟨some 80, none, .bin .geq (.tmp 79) (.const (.int .i64 0))⟩,
 ⟨some 81, none, .mov (.tmp 80)⟩,
 ⟨some 82, (some (81, true)), .mov (.tmp 2)⟩,
 ⟨some 83, (some (81, true)), .mov (.tmp 9)⟩,
 ⟨some 84, (some (81, true)), .iad 1 (.tmp 82) (.tmp 83)⟩,
 ⟨some 85, (some (81, true)), .ld1 (.tmp 84)⟩,
 ⟨some 86, (some (81, true)), .bin .geq (.tmp 85) (.const (.int .i64 0))⟩,
 ⟨some 87, none, .pick (.tmp 81) (.tmp 86) (.const (.bool false))⟩,
 ⟨some 88, none, .call (.func 36) [(.tmp 87)]⟩])
 (.seq (.ops [⟨some 89, none, .mov (.tmp 0)⟩,
 ⟨some 90, none, .mov (.tmp 2)⟩,
 ⟨some 91, none, .mov (.tmp 9)⟩,
 ⟨some 92, none, .iad 1 (.tmp 90) (.tmp 91)⟩,
 ⟨some 93, none, .ld1 (.tmp 92)⟩,
 ⟨some 94, none, .agg [(.int .i64 0), (.int .i64 0), (.int .i64 0), (.string ⟨#[]⟩), (.int .i64 0), (.int .i64 0), (.int .i64 0)] [(0, 1, (.const (.int .i64 6))), (2, 1, (.tmp 93)), (3, 1, (.const (.string ⟨#[118]⟩)))]⟩,
 ⟨some 95, none, .mov (.tmp 1)⟩,
 ⟨some 96, none, .call (.func 40) [(.tmp 89), (.tmp 94), (.tmp 95)]⟩])
 .ret)))
 (.seq (.ops [⟨some 98, none, .bin .eql (.tmp 47) (.const (.int .i64 8))⟩,
 ⟨some 97, none, .mov (.tmp 98)⟩])
 (.cond (.tmp 97)
 (.seq (.ops [⟨some 99, none, .mov (.tmp 0)⟩,
 ⟨some 100, none, .mov (.tmp 1)⟩,
 ⟨some 101, none, .mov (.tmp 2)⟩,
 ⟨some 102, none, .call (.func 41) [(.tmp 99), (.tmp 100), (.tmp 101)]⟩])
 .ret)
 (.seq (.ops [⟨some 104, none, .bin .eql (.tmp 47) (.const (.int .i64 9))⟩,
 ⟨some 103, none, .mov (.tmp 104)⟩])
 (.cond (.tmp 103)
 (.ops [⟨some 105, none, .mov (.tmp 0)⟩,
 ⟨some 106, none, .mov (.tmp 8)⟩,
 ⟨some 107, none, .lnl (.tmp 106)⟩,
 ⟨some 108, none, .agg [(.int .i64 0), (.int .i64 0), (.int .i64 0), (.string ⟨#[]⟩), (.int .i64 0), (.int .i64 0), (.int .i64 0)] [(0, 1, (.const (.int .i64 10))), (1, 1, (.tmp 107))]⟩,
 ⟨some 109, none, .mov (.tmp 1)⟩,
 ⟨some 110, none, .call (.func 40) [(.tmp 105), (.tmp 108), (.tmp 109)]⟩])
 (.seq (.ops [⟨some 112, none, .bin .eql (.tmp 47) (.const (.int .i64 10))⟩,
 ⟨some 111, none, .mov (.tmp 112)⟩])
 (.cond (.tmp 111)
 (.ops [⟨some 113, none, .mov (.tmp 0)⟩,
 ⟨some 114, none, .mov (.tmp 8)⟩,
 ⟨some 115, none, .lnl (.tmp 114)⟩,
 ⟨some 116, none, .agg [(.int .i64 0), (.int .i64 0), (.int .i64 0), (.string ⟨#[]⟩), (.int .i64 0), (.int .i64 0), (.int .i64 0)] [(0, 1, (.const (.int .i64 11))), (1, 1, (.tmp 115))]⟩,
 ⟨some 117, none, .mov (.tmp 1)⟩,
 ⟨some 118, none, .call (.func 40) [(.tmp 113), (.tmp 116), (.tmp 117)]⟩])
 (.ops [⟨some 48, none, .call (.func 36) [(.const (.bool false))]⟩])))))))))))))))))
 (.seq (.ops [⟨some 119, none, .mov (.tmp 8)⟩,
 ⟨some 120, none, .lnl (.tmp 119)⟩,
 ⟨some 121, none, .mov (.const (.int .i64 0))⟩])
 (.block 1 (.loop (.seq (.ops [⟨some 122, none, .bin .lss (.tmp 121) (.tmp 120)⟩])
 (.seq (.cond (.tmp 122)
 .skip
 (.exit 1))
 (.seq (.block 2 (.seq (.ops [⟨some 123, none, .iad 1 (.tmp 119) (.tmp 121)⟩,
 ⟨some 124, none, .ld1 (.tmp 123)⟩,
 ⟨some 11, none, .mov (.tmp 124)⟩])
 (.ops [⟨some 125, none, .mov (.tmp 0)⟩,
 ⟨some 126, none, .mov (.tmp 11)⟩,
 ⟨some 127, none, .mov (.tmp 2)⟩,
 ⟨some 128, none, .call (.func 24) [(.tmp 125), (.tmp 126), (.tmp 127)]⟩])))
 (.ops [⟨some 129, none, .bin .add (.tmp 121) (.const (.int .i64 1))⟩,
 ⟨some 121, none, .mov (.tmp 129)⟩])))))))))))⟩
theorem ok24 : compF Tryz.prog Tryz.f24 = some c24 := by kernel_rfl
def c25 : CF := ⟨52, [.tmp 2, .tmp 3],
 (.seq (.ops [⟨some 2, none, .mov (.const (.int .i64 0))⟩,
 ⟨some 3, none, .mov (.const (.int .i64 0))⟩])
 (.seq (.seq (.ops [⟨some 12, none, .mov (.tmp 0)⟩,
 ⟨some 13, none, .call (.func 42) [(.tmp 12)]⟩,
 ⟨some 11, none, .mov (.tmp 13)⟩,
 ⟨some 14, none, .ext (.tmp 11) 0⟩,
 ⟨some 15, none, .ext (.tmp 11) 1⟩,
 ⟨some 4, none, .mov (.tmp 14)⟩,
 ⟨some 5, none, .mov (.tmp 15)⟩])
 (.seq (.ops [⟨some 16, none, .mov (.tmp 5)⟩,
 ⟨some 17, none, .bin .neq (.tmp 16) (.const (.int .i64 0))⟩])
 (.cond (.tmp 17)
 (.seq (.ops [⟨some 18, none, .mov (.tmp 4)⟩,
 ⟨some 19, none, .mov (.tmp 5)⟩,
 ⟨some 2, none, .mov (.tmp 18)⟩,
 ⟨some 3, none, .mov (.tmp 19)⟩])
 .ret)
 .skip)))
 (.seq (.ops [⟨some 20, none, .mov (.tmp 0)⟩,
 ⟨some 21, none, .call (.func 43) [(.tmp 20)]⟩,
 ⟨some 6, none, .mov (.tmp 21)⟩])
 (.seq (.seq (.ops [⟨some 22, none, .mov (.tmp 0)⟩,
 ⟨some 23, none, .lnl (.tmp 22)⟩,
 ⟨some 24, none, .mov (.const (.int .i64 0))⟩])
 (.block 0 (.loop (.seq (.ops [⟨some 25, none, .bin .lss (.tmp 24) (.tmp 23)⟩])
 (.seq (.cond (.tmp 25)
 .skip
 (.exit 0))
 (.seq (.block 1 (.seq (.ops [⟨some 26, none, .mov (.tmp 24)⟩,
 ⟨some 27, none, .iad 7 (.tmp 22) (.tmp 24)⟩,
 ⟨some 28, none, .ld 7 (.tmp 27)⟩,
 ⟨some 8, none, .newz [(.int .i64 0), (.int .i64 0), (.int .i64 0), (.string ⟨#[]⟩), (.int .i64 0), (.int .i64 0), (.int .i64 0)]⟩,
 ⟨some 7, none, .mov (.tmp 26)⟩,
 ⟨none, none, .st 7 (.tmp 8) (.tmp 28)⟩])
 (.seq (.seq (.ops [⟨some 29, none, .fad (.tmp 8) 0⟩,
 ⟨some 30, none, .ld1 (.tmp 29)⟩,
 ⟨some 31, none, .bin .eql (.tmp 30) (.const (.int .i64 10))⟩,
 ⟨some 32, none, .mov (.tmp 31)⟩,
 ⟨some 33, (some (32, true)), .fad (.tmp 8) 1⟩,
 ⟨some 34, (some (32, true)), .ld1 (.tmp 33)⟩,
 ⟨some 35, (some (32, true)), .bin .gtr (.tmp 34) (.const (.int .i64 9))⟩,
 ⟨some 36, none, .pick (.tmp 32) (.tmp 35) (.const (.bool false))⟩])
 (.cond (.tmp 36)
 (.seq (.ops [⟨some 37, none, .mov (.tmp 7)⟩,
 ⟨some 2, none, .mov (.tmp 37)⟩,
 ⟨some 3, none, .mov (.const (.int .i64 3))⟩])
 .ret)
 .skip))
 (.seq (.ops [⟨some 39, none, .mov (.tmp 6)⟩,
 ⟨some 40, none, .mov (.tmp 7)⟩,
 ⟨some 41, none, .call (.func 44) [(.tmp 39), (.tmp 40)]⟩,
 ⟨some 38, none, .mov (.tmp 41)⟩,
 ⟨some 42, none, .ext (.tmp 38) 0⟩,
 ⟨some 43, none, .ext (.tmp 38) 1⟩,
 ⟨some 9, none, .mov (.tmp 42)⟩,
 ⟨some 10, none, .mov (.tmp 43)⟩])
 (.seq (.ops [⟨some 44, none, .mov (.tmp 9)⟩,
 ⟨some 45, none, .mov (.tmp 44)⟩,
 ⟨some 46, (some (45, true)), .fad (.tmp 8) 0⟩,
 ⟨some 47, (some (45, true)), .ld1 (.tmp 46)⟩,
 ⟨some 48, (some (45, true)), .bin .eql (.tmp 47) (.const (.int .i64 24))⟩,
 ⟨some 49, none, .pick (.tmp 45) (.tmp 48) (.const (.bool false))⟩])
 (.cond (.tmp 49)
 (.seq (.ops [⟨some 50, none, .mov (.tmp 7)⟩,
 ⟨some 2, none, .mov (.tmp 50)⟩,
 ⟨some 3, none, .mov (.const (.int .i64 6))⟩])
 .ret)
 .skip))))))
 (.ops [⟨some 51, none, .bin .add (.tmp 24) (.const (.int .i64 1))⟩,
 ⟨some 24, none, .mov (.tmp 51)⟩])))))))
 (.seq (.ops [⟨some 2, none, .mov (.const (.int .i64 0))⟩,
 ⟨some 3, none, .mov (.const (.int .i64 0))⟩])
 .ret)))))⟩
theorem ok25 : compF Tryz.prog Tryz.f25 = some c25 := by kernel_rfl
def c26 : CF := ⟨66, [.tmp 2],
 (.seq (.ops [⟨some 1, none, .box (.tmp 0)⟩,
 ⟨some 2, none, .mov (.const (.int .i64 0))⟩])
 (.seq (.ops [⟨some 3, none, .mov (.const (.bool false))⟩,
 ⟨some 4, none, .mov (.const (.bool false))⟩,
 ⟨some 5, none, .mov (.const (.bool false))⟩,
 ⟨some 6, none, .mov (.const (.int .i64 0))⟩,
 ⟨some 7, none, .mov (.const (.int .i64 0))⟩])
 (.seq (.seq (.ops [⟨some 8, none, .fad (.tmp 1) 0⟩,
 ⟨some 9, none, .ld1 (.tmp 8)⟩])
 (.block 0 (.seq (.seq (.ops [⟨some 11, none, .bin .eql (.tmp 9) (.const (.int .i64 1))⟩,
 ⟨some 10, none, .mov (.tmp 11)⟩])
 (.cond (.tmp 10)
 .skip
 (.seq (.ops [⟨some 12, none, .bin .eql (.tmp 9) (.const (.int .i64 2))⟩,
 ⟨some 10, none, .mov (.tmp 12)⟩])
 (.cond (.tmp 10)
 .skip
 (.seq (.ops [⟨some 13, none, .bin .eql (.tmp 9) (.const (.int .i64 7))⟩,
 ⟨some 10, none, .mov (.tmp 13)⟩])
 (.cond (.tmp 10)
 .skip
 (.ops [⟨some 14, none, .bin .eql (.tmp 9) (.const (.int .i64 12))⟩,
 ⟨some 10, none, .mov (.tmp 14)⟩])))))))
 (.cond (.tmp 10)
 (.ops [⟨some 3, none, .mov (.const (.bool true))⟩])
 (.seq (.seq (.ops [⟨some 16, none, .bin .eql (.tmp 9) (.const (.int .i64 3))⟩,
 ⟨some 15, none, .mov (.tmp 16)⟩])
 (.cond (.tmp 15)
 .skip
 (.ops [⟨some 17, none, .bin .eql (.tmp 9) (.const (.int .i64 6))⟩,
 ⟨some 15, none, .mov (.tmp 17)⟩])))
 (.cond (.tmp 15)
 (.ops [⟨some 4, none, .mov (.const (.bool true))⟩])
 (.seq (.ops [⟨some 19, none, .bin .eql (.tmp 9) (.const (.int .i64 5))⟩,
 ⟨some 18, none, .mov (.tmp 19)⟩])
 (.cond (.tmp 18)
 (.ops [⟨some 6, none, .mov (.const (.int .i64 2))⟩,
 ⟨some 7, none, .mov (.const (.int .i64 2))⟩])
 (.seq (.seq (.ops [⟨some 21, none, .bin .eql (.tmp 9) (.const (.int .i64 8))⟩,
 ⟨some 20, none, .mov (.tmp 21)⟩])
 (.cond (.tmp 20)
 .skip
 (.ops [⟨some 22, none, .bin .eql (.tmp 9) (.const (.int .i64 11))⟩,
 ⟨some 20, none, .mov (.tmp 22)⟩])))
 (.cond (.tmp 20)
 (.draw [⟨some 23, none, .fad (.tmp 1) 1⟩,
 ⟨some 24, none, .ld1 (.tmp 23)⟩,
 ⟨some 3, none, .mov (.const (.bool true))⟩,
 ⟨some 5, none, .mov (.const (.bool true))⟩,
 ⟨some 7, none, .mov (.tmp 24)⟩] [(0, 2), (1, 2), (0, 3), (1, 3)])
 (.seq (.ops [⟨some 26, none, .bin .eql (.tmp 9) (.const (.int .i64 9))⟩,
 ⟨some 25, none, .mov (.tmp 26)⟩])
 (.cond (.tmp 25)
 (.ops [⟨some 5, none, .mov (.const (.bool true))⟩,
 ⟨some 6, none, .mov (.const (.int .i64 1))⟩,
 ⟨some 7, none, .mov (.const (.int .i64 9))⟩])
 (.seq (.ops [⟨some 28, none, .bin .eql (.tmp 9) (.const (.int .i64 10))⟩,
 ⟨some 27, none, .mov (.tmp 28)⟩])
 (.cond (.tmp 27)
 (.ops [⟨some 5, none, .mov (.const (.bool true))⟩,
 ⟨some 6, none, .mov (.const (.int .i64 3))⟩,
 ⟨some 7, none, .mov (.const (.int .i64 3))⟩])
 .skip))))))))))))))
 (.seq (.seq (.ops [⟨some 29, none, .mov (.tmp 3)⟩,
 ⟨some 30, none, .un .not (.tmp 29)⟩,
 ⟨some 31, none, .mov (.tmp 30)⟩,
 ⟨some 32, (some (31, true)), .fad (.tmp 1) 2⟩,
 ⟨some 33, (some (31, true)), .ld1 (.tmp 32)⟩,
 ⟨some 34, (some (31, true)), .bin .neq (.tmp 33) (.const (.int .i64 0))⟩,
 ⟨some 35, none, .pick (.tmp 31) (.tmp 34) (.const (.bool false))⟩,
 ⟨some 36, none, .mov (.tmp 35)⟩,
 ⟨some 37, (some (36, false)), .mov (.tmp 4)⟩,
 ⟨some 38, (some (36, false)), .un .not (.tmp 37)⟩,
 ⟨some 39, (some (36, false)), .mov (.tmp 38)⟩,
 ⟨some 40, (some (39, true)), .fad (.tmp 1) 3⟩,
 ⟨some 41, (some (39, true)), .ld1 (.tmp 40)⟩,
 ⟨some 42, (some (39, true)), .bin .neq (.tmp 41) (.const (.string ⟨#[]⟩))⟩,
 ⟨some 43, (some (36, false)), .pick (.tmp 39) (.tmp 42) (.const (.bool false))⟩,
 ⟨some 44, none, .pick (.tmp 36) (.const (.bool true)) (.tmp 43)⟩,
 ⟨some 45, none, .mov (.tmp 44)⟩,
 ⟨some 46, (some (45, false)), .mov (.tmp 5)⟩,
 ⟨some 47, (some (45, false)), .un .not (.tmp 46)⟩,
 ⟨some 48, (some (45, false)), .mov (.tmp 47)⟩,
 ⟨some 49, (some (48, true)), .fad (.tmp 1) 4⟩,
 ⟨some 50, (some (48, true)), .ld1 (.tmp 49)⟩,
 ⟨some 51, (some (48, true)), .bin .neq (.tmp 50) (.const (.int .i32 0))⟩,
 ⟨some 52, (some (45, false)), .pick (.tmp 48) (.tmp 51) (.const (.bool false))⟩,
 ⟨some 53, none, .pick (.tmp 45) (.const (.bool true)) (.tmp 52)⟩,
 ⟨some 54, none, .mov (.tmp 53)⟩,
 ⟨some 55, (some (54, false)), .fad (.tmp 1) 1⟩,
 ⟨some 56, (some (54, false)), .ld1 (.tmp 55)⟩,
 ⟨some 57, (some (54, false)), .mov (.tmp 6)⟩,
 ⟨some 58, (some (54, false)), .bin .lss (.tmp 56) (.tmp 57)⟩,
 ⟨some 59, none, .pick (.tmp 54) (.const (.bool true)) (.tmp 58)⟩,
 ⟨some 60, none, .mov (.tmp 59)⟩,
 ⟨some 61, (some (60, false)), .fad (.tmp 1) 1⟩,
 ⟨some 62, (some (60, false)), .ld1 (.tmp 61)⟩,
 ⟨some 63, (some (60, false)), .mov (.tmp 7)⟩,
 ⟨some 64, (some (60, false)), .bin .gtr (.tmp 62) (.tmp 63)⟩,
 ⟨some 65, none, .pick (.tmp 60) (.const (.bool true)) (.tmp 64)⟩])
 (.cond (.tmp 65)
 (.seq (.ops [⟨some 2, none, .mov (.const (.int .i64 6))⟩])
 .ret)
 .skip))
 (.seq (.ops [⟨some 2, none, .mov (.const (.int .i64 0))⟩])
 .ret)))))⟩
theorem ok26 : compF Tryz.prog Tryz.f26 = some c26 := by kernel_rfl
def c27 : CF := ⟨76, [.tmp 4],
 (.seq (.ops [⟨some 2, none, .box (.tmp 0)⟩,
 ⟨some 4, none, .mov (.const (.int .i64 0))⟩])
 (.seq (.ops [⟨some 5, none, .mov (.const (.int .i64 0))⟩,
 ⟨some 6, none, .mov (.const (.int .i64 0))⟩])
 (.seq (.seq (.ops [⟨some 9, none, .fad (.tmp 2) 0⟩,
 ⟨some 10, none, .ld1 (.tmp 9)⟩])
 (.block 0 (.seq (.block 5 (.seq (.block 4 (.seq (.block 3 (.seq (.block 2 (.seq (.block 1 (.seq (.seq (.seq (.ops [⟨some 12, none, .bin .eql (.tmp 10) (.const (.int .i64 1))⟩,
 ⟨some 11, none, .mov (.tmp 12)⟩])
 (.cond (.tmp 11)
 (.exit 1)
 .skip))
 (.seq (.seq (.ops [⟨some 14, none, .bin .eql (.tmp 10) (.const (.int .i64 2))⟩,
 ⟨some 13, none, .mov (.tmp 14)⟩])
 (.cond (.tmp 13)
 (.exit 2)
 .skip))
 (.seq (.seq (.seq (.ops [⟨some 16, none, .bin .eql (.tmp 10) (.const (.int .i64 7))⟩,
 ⟨some 15, none, .mov (.tmp 16)⟩])
 (.cond (.tmp 15)
 .skip
 (.ops [⟨some 17, none, .bin .eql (.tmp 10) (.const (.int .i64 12))⟩,
 ⟨some 15, none, .mov (.tmp 17)⟩])))
 (.cond (.tmp 15)
 (.exit 3)
 .skip))
 (.seq (.seq (.ops [⟨some 19, none, .bin .eql (.tmp 10) (.const (.int .i64 11))⟩,
 ⟨some 18, none, .mov (.tmp 19)⟩])
 (.cond (.tmp 18)
 (.exit 4)
 .skip))
 (.seq (.ops [⟨some 21, none, .bin .eql (.tmp 10) (.const (.int .i64 8))⟩,
 ⟨some 20, none, .mov (.tmp 21)⟩])
 (.cond (.tmp 20)
 (.exit 5)
 .skip))))))
 (.exit 0)))
 (.seq (.draw [⟨some 22, none, .fad (.tmp 2) 2⟩,
 ⟨some 23, none, .ld1 (.tmp 22)⟩,
 ⟨some 24, none, .fad (.tmp 2) 2⟩,
 ⟨some 25, none, .ld1 (.tmp 24)⟩,
 ⟨some 5, none, .mov (.tmp 23)⟩,
 ⟨some 6, none, .mov (.tmp 25)⟩] [(0, 2), (1, 2), (0, 3), (1, 3), (2, 4), (3, 4)])
 (.exit 0))))
 (.seq (.ops [⟨some 6, none, .mov (.const (.int .i64 1))⟩])
 (.exit 0))))
 (.seq (.ops [⟨some 6, none, .mov (.const (.int .i64 1000000))⟩])
 (.exit 0))))
 (.ops [⟨some 5, none, .mov (.const (.int .i64 1))⟩])))
 (.seq (.ops [⟨some 6, none, .mov (.const (.int .i64 8))⟩])
 (.exit 0)))))
 (.seq (.seq (.ops [⟨some 26, none, .fad (.tmp 2) 2⟩,
 ⟨some 27, none, .ld1 (.tmp 26)⟩,
 ⟨some 28, none, .mov (.tmp 5)⟩,
 ⟨some 29, none, .bin .lss (.tmp 27) (.tmp 28)⟩,
 ⟨some 30, none, .mov (.tmp 29)⟩,
 ⟨some 31, (some (30, false)), .fad (.tmp 2) 2⟩,
 ⟨some 32, (some (30, false)), .ld1 (.tmp 31)⟩,
 ⟨some 33, (some (30, false)), .mov (.tmp 6)⟩,
 ⟨some 34, (some (30, false)), .bin .gtr (.tmp 32) (.tmp 33)⟩,
 ⟨some 35, none, .pick (.tmp 30) (.const (.bool true)) (.tmp 34)⟩,
 ⟨some 36, none, .mov (.tmp 35)⟩,
 ⟨some 37, (some (36, false)), .fad (.tmp 2) 4⟩,
 ⟨some 38, (some (36, false)), .ld1 (.tmp 37)⟩,
 ⟨some 39, (some (36, false)), .bin .lss (.tmp 38) (.const (.int .i32 0))⟩,
 ⟨some 40, none, .pick (.tmp 36) (.const (.bool true)) (.tmp 39)⟩,
 ⟨some 41, none, .mov (.tmp 40)⟩,
 ⟨some 42, (some (41, false)), .fad (.tmp 2) 4⟩,
 ⟨some 43, (some (41, false)), .ld1 (.tmp 42)⟩,
 ⟨some 44, (some (41, false)), .bin .gtr (.tmp 43) (.const (.int .i32 99))⟩,
 ⟨some 45, none, .pick (.tmp 41) (.const (.bool true)) (.tmp 44)⟩,
 ⟨some 46, none, .mov (.tmp 45)⟩,
 ⟨some 47, (some (46, false)), .fad (.tmp 2) 5⟩,
 ⟨some 48, (some (46, false)), .ld1 (.tmp 47)⟩,
 ⟨some 49, (some (46, false)), .bin .lss (.tmp 48) (.const (.int .i32 0))⟩,
 ⟨some 50, none, .pick (.tmp 46) (.const (.bool true)) (.tmp 49)⟩])
 (.cond (.tmp 50)
 (.seq (.ops [⟨some 4, none, .mov (.const (.int .i64 7))⟩])
 .ret)
 .skip))
 (.seq (.ops [⟨some 52, none, .ld 6 (.tmp 2)⟩,
 ⟨some 53, none, .mov (.tmp 1)⟩,
 ⟨some 54, none, .call (.func 45) [(.tmp 52), (.tmp 53)]⟩,
 ⟨some 51, none, .mov (.tmp 54)⟩,
 ⟨some 55, none, .ext (.tmp 51) 0⟩,
 ⟨some 56, none, .ext (.tmp 51) 1⟩,
 ⟨some 7, none, .mov (.tmp 55)⟩,
 ⟨some 8, none, .mov (.tmp 56)⟩])
 (.seq (.seq (.ops [⟨some 57, none, .fad (.tmp 2) 0⟩,
 ⟨some 58, none, .ld1 (.tmp 57)⟩])
 (.block 6 (.seq (.seq (.ops [⟨some 60, none, .bin .eql (.tmp 58) (.const (.int .i64 3))⟩,
 ⟨some 59, none, .mov (.tmp 60)⟩])
 (.cond (.tmp 59)
 .skip
 (.ops [⟨some 61, none, .bin .eql (.tmp 58) (.const (.int .i64 6))⟩,
 ⟨some 59, none, .mov (.tmp 61)⟩])))
 (.cond (.tmp 59)
 (.seq (.ops [⟨some 62, none, .fad (.tmp 2) 3⟩,
 ⟨some 63, none, .ld1 (.tmp 62)⟩,
 ⟨some 64, none, .call (.func 46) [(.tmp 63)]⟩,
 ⟨some 65, none, .un .not (.tmp 64)⟩])
 (.cond (.tmp 65)
 (.seq (.ops [⟨some 4, none, .mov (.const (.int .i64 6))⟩])
 .ret)
 .skip))
 (.seq (.seq (.ops [⟨some 67, none, .bin .eql (.tmp 58) (.const (.int .i64 8))⟩,
 ⟨some 66, none, .mov (.tmp 67)⟩])
 (.cond (.tmp 66)
 .skip
 (.ops [⟨some 68, none, .bin .eql (.tmp 58) (.const (.int .i64 11))⟩,
 ⟨some 66, none, .mov (.tmp 68)⟩])))
 (.cond (.tmp 66)
 (.seq (.ops [⟨some 69, none, .fad (.tmp 2) 1⟩,
 ⟨some 70, none, .ld1 (.tmp 69)⟩,
 ⟨some 71, none, .mov (.tmp 7)⟩,
 ⟨some 72, none, .mov (.tmp 8)⟩,
 ⟨some 73, none, .bin .add (.tmp 71) (.tmp 72)⟩,
 ⟨some 74, none, .bin .add (.tmp 73) (.const (.int .i64 1))⟩,
 ⟨some 75, none, .bin .neq (.tmp 70) (.tmp 74)⟩])
 (.cond (.tmp 75)
 (.seq (.ops [⟨some 4, none, .mov (.const (.int .i64 6))⟩])
 .ret)
 .skip))
 .skip))))))
 (.seq (.ops [⟨some 4, none, .mov (.const (.int .i64 0))⟩])
 .ret)))))))⟩
theorem ok27 : compF Tryz.prog Tryz.f27 = some c27 := by kernel_rfl
def c28 : CF := ⟨25, [.tmp 2],
 (.seq (.ops [⟨some 2, none, .mov (.const (.int .i64 0))⟩])
 (.seq (.seq (.ops [⟨some 5, none, .mov (.tmp 0)⟩,
 ⟨some 6, none, .lnl (.tmp 5)⟩,
 ⟨some 7, none, .bin .lss (.tmp 6) (.const (.int .i64 1))⟩])
 (.cond (.tmp 7)
 (.ops [⟨some 8, none, .ifc 9 (.const (.string ⟨#[115, 108, 105, 99, 101, 115, 46, 77, 97, 120, 58, 32, 101, 109, 112, 116, 121, 32, 108, 105, 115, 116]⟩))⟩,
 ⟨none, none, .bad⟩])
 .skip))
 (.seq (.ops [⟨some 9, none, .mov (.tmp 0)⟩,
 ⟨some 10, none, .iad 1 (.tmp 9) (.const (.int .i64 0))⟩,
 ⟨some 11, none, .ld1 (.tmp 10)⟩,
 ⟨some 3, none, .mov (.tmp 11)⟩])
 (.seq (.seq (.ops [⟨some 4, none, .mov (.const (.int .i64 1))⟩])
 (.block 0 (.loop (.seq (.seq (.ops [⟨some 12, none, .mov (.tmp 4)⟩,
 ⟨some 13, none, .mov (.tmp 0)⟩,
 ⟨some 14, none, .lnl (.tmp 13)⟩,
 ⟨some 15, none, .bin .lss (.tmp 12) (.tmp 14)⟩])
 (.cond (.tmp 15)
 .skip
 (.exit 0)))
 (.seq (.block 1 (.ops [⟨some 18, none, .mov (.tmp 3)⟩,
 ⟨some 19, none, .mov (.tmp 0)⟩,
 ⟨some 20, none, .mov (.tmp 4)⟩,
 ⟨some 21, none, .iad 1 (.tmp 19) (.tmp 20)⟩,
 ⟨some 22, none, .ld1 (.tmp 21)⟩,
 ⟨some 23, none, .mnx true [(.tmp 18), (.tmp 22)]⟩,
 ⟨some 3, none, .mov (.tmp 23)⟩]))
 (.ops [⟨some 16, none, .mov (.tmp 4)⟩,
 ⟨some 17, none, .bin .add (.tmp 16) (.const (.int .i64 1))⟩,
 ⟨some 4, none, .mov (.tmp 17)⟩]))))))
 (.seq (.ops [⟨some 24, none, .mov (.tmp 3)⟩,
 ⟨some 2, none, .mov (.tmp 24)⟩])
 .ret)))))⟩
theorem ok28 : compF Tryz.prog Tryz.f28 = some c28 := by kernel_rfl
def c29 : CF := ⟨12, [.tmp 2],
 (.seq (.ops [⟨some 1, none, .box (.tmp 0)⟩,
 ⟨some 2, none, .mov (.const (.slice none 0 0))⟩])
 (.seq (.ops [⟨some 5, none, .ld1 (.tmp 1)⟩,
 ⟨some 6, none, .lnl (.tmp 5)⟩,
 ⟨some 7, none, .mks 8 [(.int .i64 0)] (.tmp 6) (.tmp 6)⟩,
 ⟨some 3, none, .newz [(.slice none 0 0)]⟩,
 ⟨none, none, .st 1 (.tmp 3) (.tmp 7)⟩])
 (.seq (.ops [⟨some 4, none, .newz [.nilFunc]⟩])
 (.seq (.ops [⟨some 8, none, .fn 47 [] [(.tmp 1), (.tmp 4), (.tmp 3)]⟩,
 ⟨none, none, .st 1 (.tmp 4) (.tmp 8)⟩])
 (.seq (.ops [⟨some 9, none, .ld1 (.tmp 4)⟩,
 ⟨some 10, none, .call (.tmp 9) [(.const (.int .i64 0))]⟩])
 (.seq (.ops [⟨some 11, none, .ld1 (.tmp 3)⟩,
 ⟨some 2, none, .mov (.tmp 11)⟩])
 .ret))))))⟩
theorem ok29 : compF Tryz.prog Tryz.f29 = some c29 := by kernel_rfl
def c30 : CF := ⟨99, [.tmp 8],
 (.seq (.ops [⟨some 8, none, .mov (.const (.int .i64 0))⟩])
 (.seq (.ops [⟨some 17, none, .mov (.tmp 0)⟩,
 ⟨some 18, none, .mov (.tmp 2)⟩,
 ⟨some 19, none, .iad 6 (.tmp 17) (.tmp 18)⟩,
 ⟨some 20, none, .ld 6 (.tmp 19)⟩,
 ⟨some 21, none, .mov (.tmp 3)⟩,
 ⟨some 22, none, .call (.func 45) [(.tmp 20), (.tmp 21)]⟩,
 ⟨some 16, none, .mov (.tmp 22)⟩,
 ⟨some 23, none, .ext (.tmp 16) 0⟩,
 ⟨some 24, none, .ext (.tmp 16) 1⟩,
 ⟨some 9, none, .mov (.tmp 23)⟩,
 ⟨some 10, none, .mov (.tmp 24)⟩])
 (.seq (.seq (.ops [⟨some 25, none, .mov (.tmp 0)⟩,
 ⟨some 26, none, .mov (.tmp 2)⟩,
 ⟨some 27, none, .iad 6 (.tmp 25) (.tmp 26)⟩,
 ⟨some 28, none, .fad (.tmp 27) 1⟩,
 ⟨some 29, none, .ld1 (.tmp 28)⟩,
 ⟨some 30, none, .bin .eql (.tmp 29) (.const (.int .i64 0))⟩])
 (.cond (.tmp 30)
 (.seq (.ops [⟨some 8, none, .mov (.const (.int .i64 0))⟩])
 .ret)
 .skip))
 (.seq (.ops [⟨some 11, none, .mov (.const (.map none))⟩])
 (.seq (.seq (.ops [⟨some 31, none, .mov (.tmp 9)⟩,
 ⟨some 32, none, .bin .gtr (.tmp 31) (.const (.int .i64 0))⟩])
 (.cond (.tmp 32)
 (.ops [⟨some 33, none, .mkm⟩,
 ⟨some 11, none, .mov (.tmp 33)⟩])
 .skip))
 (.seq (.ops [⟨some 12, none, .mov (.const (.bool false))⟩])
 (.seq (.seq (.ops [⟨some 34, none, .mov (.tmp 0)⟩,
 ⟨some 35, none, .mov (.tmp 1)⟩,
 ⟨some 36, none, .mov (.tmp 2)⟩,
 ⟨some 37, none, .call (.func 48) [(.tmp 34), (.tmp 35), (.tmp 36)]⟩,
 ⟨some 38, none, .lnl (.tmp 37)⟩,
 ⟨some 39, none, .mov (.const (.int .i64 0))⟩])
 (.block 0 (.loop (.seq (.ops [⟨some 40, none, .bin .lss (.tmp 39) (.tmp 38)⟩])
 (.seq (.cond (.tmp 40)
 .skip
 (.exit 0))
 (.seq (.block 1 (.seq (.ops [⟨some 41, none, .mov (.tmp 39)⟩,
 ⟨some 42, none, .iad 1 (.tmp 37) (.tmp 39)⟩,
 ⟨some 43, none, .ld1 (.tmp 42)⟩,
 ⟨some 13, none, .mov (.tmp 41)⟩,
 ⟨some 14, none, .mov (.tmp 43)⟩])
 (.seq (.ops [⟨some 44, none, .mov (.tmp 0)⟩,
 ⟨some 45, none, .mov (.tmp 14)⟩,
 ⟨some 46, none, .iad 6 (.tmp 44) (.tmp 45)⟩,
 ⟨some 47, none, .ld 6 (.tmp 46)⟩,
 ⟨some 15, none, .newz [(.int .i64 0), (.int .i64 0), (.int .i64 0), (.string ⟨#[]⟩), (.int .i32 0), (.int .i32 0)]⟩,
 ⟨none, none, .st 6 (.tmp 15) (.tmp 47)⟩])
 (.block 2 (.seq (.seq (.ops [⟨some 49, none, .fad (.tmp 15) 0⟩,
 ⟨some 50, none, .ld1 (.tmp 49)⟩,
 ⟨some 51, none, .bin .eql (.tmp 50) (.const (.int .i64 12))⟩,
 ⟨some 52, none, .mov (.tmp 13)⟩,
 ⟨some 53, none, .mov (.tmp 9)⟩,
 ⟨some 54, none, .bin .lss (.tmp 52) (.tmp 53)⟩,
 ⟨some 55, none, .eqb true (.tmp 51) (.tmp 54)⟩,
 ⟨some 48, none, .mov (.tmp 55)⟩])
 (.cond (.tmp 48)
 .skip
 (.seq (.ops [⟨some 56, none, .mov (.tmp 13)⟩,
 ⟨some 57, none, .mov (.tmp 9)⟩,
 ⟨some 58, none, .bin .geq (.tmp 56) (.tmp 57)⟩,
 ⟨some 59, none, .mov (.tmp 58)⟩,
 ⟨some 60, (some (59, true)), .mov (.tmp 13)⟩,
 ⟨some 61, (some (59, true)), .mov (.tmp 9)⟩,
 ⟨some 62, (some (59, true)), .mov (.tmp 10)⟩,
 ⟨some 63, (some (59, true)), .bin .add (.tmp 61) (.tmp 62)⟩,
 ⟨some 64, (some (59, true)), .bin .lss (.tmp 60) (.tmp 63)⟩,
 ⟨some 65, none, .pick (.tmp 59) (.tmp 64) (.const (.bool false))⟩,
 ⟨some 66, none, .mov (.tmp 65)⟩,
 ⟨some 67, (some (66, true)), .fad (.tmp 15) 0⟩,
 ⟨some 68, (some (66, true)), .ld1 (.tmp 67)⟩,
 ⟨some 69, (some (66, true)), .bin .neq (.tmp 68) (.const (.int .i64 8))⟩,
 ⟨some 70, none, .pick (.tmp 66) (.tmp 69) (.const (.bool false))⟩,
 ⟨some 48, none, .mov (.tmp 70)⟩])
 (.cond (.tmp 48)
 .skip
 (.ops [⟨some 71, none, .mov (.tmp 0)⟩,
 ⟨some 72, none, .mov (.tmp 2)⟩,
 ⟨some 73, none, .iad 6 (.tmp 71) (.tmp 72)⟩,
 ⟨some 74, none, .fad (.tmp 73) 0⟩,
 ⟨some 75, none, .ld1 (.tmp 74)⟩,
 ⟨some 76, none, .bin .eql (.tmp 75) (.const (.int .i64 5))⟩,
 ⟨some 77, none, .mov (.tmp 76)⟩,
 ⟨some 78, (some (77, true)), .fad (.tmp 15) 0⟩,
 ⟨some 79, (some (77, true)), .ld1 (.tmp 78)⟩,
 ⟨some 80, (some (77, true)), .call (.func 49) [(.tmp 79)]⟩,
 ⟨some 81, (some (77, true)), .un .not (.tmp 80)⟩,
 ⟨some 82, none, .pick (.tmp 77) (.tmp 81) (.const (.bool false))⟩,
 ⟨some 48, none, .mov (.tmp 82)⟩])))))
 (.cond (.tmp 48)
 (.seq (.ops [⟨some 8, none, .mov (.const (.int .i64 6))⟩])
 .ret)
 (.seq (.ops [⟨some 84, none, .mov (.tmp 13)⟩,
 ⟨some 85, none, .mov (.tmp 9)⟩,
 ⟨some 86, none, .bin .lss (.tmp 84) (.tmp 85)⟩,
 ⟨some 83, none, .mov (.tmp 86)⟩])
 (.cond (.tmp 83)
 (.seq (.ops [⟨some 87, none, .mov (.tmp 12)⟩,
 ⟨some 88, none, .mov (.tmp 87)⟩,
 ⟨some 89, (some (88, false)), .mov (.tmp 11)⟩,
 ⟨some 90, (some (88, false)), .fad (.tmp 15) 2⟩,
 ⟨some 91, (some (88, false)), .ld1 (.tmp 90)⟩,
 ⟨some 92, (some (88, false)), .lkp (.int .i64) (.bool false) (.tmp 89) (.tmp 91) false⟩,
 ⟨some 93, none, .pick (.tmp 88) (.const (.bool true)) (.tmp 92)⟩,
 ⟨some 12, none, .mov (.tmp 93)⟩])
 (.ops [⟨some 94, none, .mov (.tmp 11)⟩,
 ⟨some 95, none, .fad (.tmp 15) 2⟩,
 ⟨some 96, none, .ld1 (.tmp 95)⟩,
 ⟨none, none, .mup (.int .i64) (.tmp 94) (.tmp 96) (.const (.bool true))⟩]))
 .skip))))))))
 (.ops [⟨some 97, none, .bin .add (.tmp 39) (.const (.int .i64 1))⟩,
 ⟨some 39, none, .mov (.tmp 97)⟩])))))))
 (.seq (.seq (.ops [⟨some 98, none, .mov (.tmp 12)⟩])
 (.cond (.tmp 98)
 (.seq (.ops [⟨some 8, none, .mov (.const (.int .i64 8))⟩])
 .ret)
 .skip))
 (.seq (.ops [⟨some 8, none, .mov (.const (.int .i64 0))⟩])
 .ret)))))))))⟩
theorem ok30 : compF Tryz.prog Tryz.f30 = some c30 := by kernel_rfl
def c31 : CF := ⟨15, [],
 (.seq (.ops [⟨some 4, none, .box (.tmp 0)⟩,
 ⟨some 5, none, .box (.tmp 1)⟩,
 ⟨some 6, none, .box (.tmp 2)⟩,
 ⟨some 7, none, .box (.tmp 3)⟩])
 (.seq (.ops [⟨some 10, none, .ld1 (.tmp 4)⟩,
 ⟨some 11, none, .call (.func 29) [(.tmp 10)]⟩,
 ⟨some 8, none, .newz [(.slice none 0 0)]⟩,
 ⟨none, none, .st 1 (.tmp 8) (.tmp 11)⟩])
 (.seq (.ops [⟨some 9, none, .newz [.nilFunc]⟩])
 (.seq (.ops [⟨some 12, none, .fn 50 [] [(.tmp 4), (.tmp 8), (.tmp 5), (.tmp 6), (.tmp 7), (.tmp 9)]⟩,
 ⟨none, none, .st 1 (.tmp 9) (.tmp 12)⟩])
 (.ops [⟨some 13, none, .ld1 (.tmp 9)⟩,
 ⟨some 14, none, .call (.tmp 13) [(.const (.int .i64 0))]⟩])))))⟩
theorem ok31 : compF Tryz.prog Tryz.f31 = some c31 := by kernel_rfl
def c32 : CF := ⟨46, [],
 (.block 0 (.seq (.ops [⟨some 9, none, .ld1 (.tmp 2)⟩,
 ⟨some 10, none, .mov (.tmp 9)⟩,
 ⟨some 11, (some (10, true)), .mov (.tmp 1)⟩,
 ⟨some 12, (some (10, true)), .bin .lss (.tmp 11) (.const (.int .i64 0))⟩,
 ⟨some 13, none, .pick (.tmp 10) (.tmp 12) (.const (.bool false))⟩,
 ⟨some 8, none, .mov (.tmp 13)⟩])
 (.cond (.tmp 8)
 (.draw [⟨some 14, none, .ld1 (.tmp 3)⟩,
 ⟨some 15, none, .ld1 (.tmp 4)⟩,
 ⟨some 16, none, .mov (.tmp 0)⟩,
 ⟨some 17, none, .iad 6 (.tmp 15) (.tmp 16)⟩,
 ⟨some 18, none, .fad (.tmp 17) 2⟩,
 ⟨some 19, none, .ld1 (.tmp 18)⟩,
 ⟨some 20, none, .lits [(.int .i64 0)] 1 [(0, 1, (.tmp 19))]⟩,
 ⟨some 21, none, .app 1 8 (.tmp 14) (.tmp 20)⟩,
 ⟨none, none, .st 1 (.tmp 3) (.tmp 21)⟩] [(0, 1), (0, 2), (1, 2), (0, 3), (0, 4), (0, 5), (0, 6)])
 (.seq (.ops [⟨some 23, none, .ld1 (.tmp 2)⟩,
 ⟨some 24, none, .un .not (.tmp 23)⟩,
 ⟨some 25, none, .mov (.tmp 24)⟩,
 ⟨some 26, (some (25, true)), .mov (.tmp 1)⟩,
 ⟨some 27, (some (25, true)), .ld1 (.tmp 5)⟩,
 ⟨some 28, (some (25, true)), .nilck (.tmp 27)⟩,
 ⟨some 29, (some (25, true)), .fad (.tmp 28) 0⟩,
 ⟨some 30, (some (25, true)), .ld1 (.tmp 29)⟩,
 ⟨some 31, (some (25, true)), .bin .geq (.tmp 26) (.tmp 30)⟩,
 ⟨some 32, none, .pick (.tmp 25) (.tmp 31) (.const (.bool false))⟩,
 ⟨some 22, none, .mov (.tmp 32)⟩])
 (.cond (.tmp 22)
 (.draw [⟨some 33, none, .ld1 (.tmp 3)⟩,
 ⟨some 34, none, .ld1 (.tmp 4)⟩,
 ⟨some 35, none, .mov (.tmp 0)⟩,
 ⟨some 36, none, .iad 6 (.tmp 34) (.tmp 35)⟩,
 ⟨some 37, none, .fad (.tmp 36) 2⟩,
 ⟨some 38, none, .ld1 (.tmp 37)⟩,
 ⟨some 39, none, .ld1 (.tmp 5)⟩,
 ⟨some 40, none, .nilck (.tmp 39)⟩,
 ⟨some 41, none, .fad (.tmp 40) 0⟩,
 ⟨some 42, none, .ld1 (.tmp 41)⟩,
 ⟨some 43, none, .bin .sub (.tmp 38) (.tmp 42)⟩,
 ⟨some 44, none, .lits [(.int .i64 0)] 1 [(0, 1, (.tmp 43))]⟩,
 ⟨some 45, none, .app 1 8 (.tmp 33) (.tmp 44)⟩,
 ⟨none, none, .st 1 (.tmp 3) (.tmp 45)⟩] [(0, 1), (0, 2), (1, 2), (0, 3), (0, 4), (0, 5), (0, 6), (1, 6), (2, 6), (3, 6), (4, 6), (5, 6), (0, 7), (1, 7), (2, 7), (3, 7), (4, 7), (5, 7), (0, 8), (1, 8), (2, 8), (3, 8), (4, 8), (5, 8), (0, 9), (1, 9), (2, 9), (3, 9), (4, 9), (5, 9), (0, 10), (0, 11)])
 .skip)))))⟩
theorem ok32 : compF Tryz.prog Tryz.f32 = some c32 := by kernel_rfl
def c33 : CF := ⟨11, [],
 (.seq (.ops [⟨some 3, none, .mov (.tmp 0)⟩,
 ⟨some 4, none, .lnl (.tmp 3)⟩,
 ⟨some 2, none, .mov (.tmp 4)⟩])
 (.ops [⟨some 5, none, .mov (.tmp 0)⟩,
 ⟨some 6, none, .mov (.tmp 2)⟩,
 ⟨some 7, none, .mov (.tmp 2)⟩,
 ⟨some 8, none, .cvi .u64 (.tmp 7)⟩,
 ⟨some 9, none, .call (.func 56) [(.tmp 8)]⟩,
 ⟨some 10, none, .call (.func 55) [(.tmp 5), (.const (.int .i64 0)), (.tmp 6), (.tmp 9)]⟩]))⟩
theorem ok33 : compF Tryz.prog Tryz.f33 = some c33 := by kernel_rfl
def c34 : CF := ⟨61, [.tmp 2],
 (.seq (.ops [⟨some 2, none, .mov (.const (.slice none 0 0))⟩])
 (.seq (.seq (.ops [⟨some 6, none, .mov (.tmp 0)⟩,
 ⟨some 7, none, .lnl (.tmp 6)⟩,
 ⟨some 8, none, .bin .lss (.tmp 7) (.const (.int .i64 2))⟩])
 (.cond (.tmp 8)
 (.seq (.ops [⟨some 9, none, .mov (.tmp 0)⟩,
 ⟨some 2, none, .mov (.tmp 9)⟩])
 .ret)
 .skip))
 (.seq (.seq (.ops [⟨some 3, none, .mov (.const (.int .i64 1))⟩])
 (.block 0 (.loop (.seq (.seq (.ops [⟨some 10, none, .mov (.tmp 3)⟩,
 ⟨some 11, none, .mov (.tmp 0)⟩,
 ⟨some 12, none, .lnl (.tmp 11)⟩,
 ⟨some 13, none, .bin .lss (.tmp 10) (.tmp 12)⟩])
 (.cond (.tmp 13)
 .skip
 (.exit 0)))
 (.seq (.block 1 (.seq (.draw [⟨some 16, none, .mov (.tmp 0)⟩,
 ⟨some 17, none, .mov (.tmp 3)⟩,
 ⟨some 18, none, .iad 1 (.tmp 16) (.tmp 17)⟩,
 ⟨some 19, none, .ld1 (.tmp 18)⟩,
 ⟨some 20, none, .mov (.tmp 0)⟩,
 ⟨some 21, none, .mov (.tmp 3)⟩,
 ⟨some 22, none, .bin .sub (.tmp 21) (.const (.int .i64 1))⟩,
 ⟨some 23, none, .iad 1 (.tmp 20) (.tmp 22)⟩,
 ⟨some 24, none, .ld1 (.tmp 23)⟩,
 ⟨some 25, none, .bin .eql (.tmp 19) (.tmp 24)⟩] [(0, 1), (0, 4), (1, 4), (2, 4), (3, 4), (0, 5), (1, 5), (2, 5), (3, 5), (4, 5), (0, 6), (1, 6), (2, 6), (3, 6), (4, 6), (0, 7), (1, 7), (2, 7), (3, 7), (0, 8), (1, 8), (2, 8), (3, 8)])
 (.cond (.tmp 25)
 (.seq (.ops [⟨some 26, none, .mov (.tmp 0)⟩,
 ⟨some 27, none, .mov (.tmp 3)⟩,
 ⟨some 28, none, .sl 1 (.tmp 26) (some (.tmp 27)) none none⟩,
 ⟨some 4, none, .mov (.tmp 28)⟩])
 (.seq (.seq (.ops [⟨some 5, none, .mov (.const (.int .i64 1))⟩])
 (.block 2 (.loop (.seq (.seq (.ops [⟨some 29, none, .mov (.tmp 5)⟩,
 ⟨some 30, none, .mov (.tmp 4)⟩,
 ⟨some 31, none, .lnl (.tmp 30)⟩,
 ⟨some 32, none, .bin .lss (.tmp 29) (.tmp 31)⟩])
 (.cond (.tmp 32)
 .skip
 (.exit 2)))
 (.seq (.block 3 (.seq (.draw [⟨some 35, none, .mov (.tmp 4)⟩,
 ⟨some 36, none, .mov (.tmp 5)⟩,
 ⟨some 37, none, .iad 1 (.tmp 35) (.tmp 36)⟩,
 ⟨some 38, none, .ld1 (.tmp 37)⟩,
 ⟨some 39, none, .mov (.tmp 4)⟩,
 ⟨some 40, none, .mov (.tmp 5)⟩,
 ⟨some 41, none, .bin .sub (.tmp 40) (.const (.int .i64 1))⟩,
 ⟨some 42, none, .iad 1 (.tmp 39) (.tmp 41)⟩,
 ⟨some 43, none, .ld1 (.tmp 42)⟩,
 ⟨some 44, none, .bin .neq (.tmp 38) (.tmp 43)⟩] [(0, 1), (0, 4), (1, 4), (2, 4), (3, 4), (0, 5), (1, 5), (2, 5), (3, 5), (4, 5), (0, 6), (1, 6), (2, 6), (3, 6), (4, 6), (0, 7), (1, 7), (2, 7), (3, 7), (0, 8), (1, 8), (2, 8), (3, 8)])
 (.cond (.tmp 44)
 (.seq (.ops [⟨some 45, none, .mov (.tmp 0)⟩,
 ⟨some 46, none, .mov (.tmp 3)⟩,
 ⟨some 47, none, .mov (.tmp 4)⟩,
 ⟨some 48, none, .mov (.tmp 5)⟩,
 ⟨some 49, none, .iad 1 (.tmp 47) (.tmp 48)⟩,
 ⟨some 50, none, .ld1 (.tmp 49)⟩,
 ⟨some 51, none, .iad 1 (.tmp 45) (.tmp 46)⟩,
 ⟨none, none, .st 1 (.tmp 51) (.tmp 50)⟩])
 (.ops [⟨some 52, none, .mov (.tmp 3)⟩,
 ⟨some 53, none, .bin .add (.tmp 52) (.const (.int .i64 1))⟩,
 ⟨some 3, none, .mov (.tmp 53)⟩]))
 .skip)))
 (.ops [⟨some 33, none, .mov (.tmp 5)⟩,
 ⟨some 34, none, .bin .add (.tmp 33) (.const (.int .i64 1))⟩,
 ⟨some 5, none, .mov (.tmp 34)⟩]))))))
 (.seq (.ops [⟨some 54, none, .mov (.tmp 0)⟩,
 ⟨some 55, none, .mov (.tmp 3)⟩,
 ⟨some 56, none, .sl 1 (.tmp 54) (some (.tmp 55)) none none⟩,
 ⟨none, none, .bad⟩])
 (.seq (.ops [⟨some 57, none, .mov (.tmp 0)⟩,
 ⟨some 58, none, .mov (.tmp 3)⟩,
 ⟨some 59, none, .sl 1 (.tmp 57) none (some (.tmp 58)) none⟩,
 ⟨some 2, none, .mov (.tmp 59)⟩])
 .ret))))
 .skip)))
 (.ops [⟨some 14, none, .mov (.tmp 3)⟩,
 ⟨some 15, none, .bin .add (.tmp 14) (.const (.int .i64 1))⟩,
 ⟨some 3, none, .mov (.tmp 15)⟩]))))))
 (.seq (.ops [⟨some 60, none, .mov (.tmp 0)⟩,
 ⟨some 2, none, .mov (.tmp 60)⟩])
 .ret))))⟩
theorem ok34 : compF Tryz.prog Tryz.f34 = some c34 := by kernel_rfl
def c35 : CF := ⟨2, [.cells 0 34],
 (.seq (.ops [⟨some 0, none, .newz [.nilFunc, .nilFunc, .nilFunc, .nilFunc, .nilFunc, .nilFunc, .nilFunc, .nilFunc, .nilFunc, .nilFunc, .nilFunc, .nilFunc, .nilFunc, .nilFunc, .nilFunc, .nilFunc, .nilFunc, .nilFunc, .nilFunc, .nilFunc, .nilFunc, .nilFunc, .nilFunc, .nilFunc, .nilFunc, .nilFunc, .nilFunc, .nilFunc, .nilFunc, .nilFunc, .nilFunc, .nilFunc, .nilFunc, .nilFunc]⟩])
 (.seq (.ops [⟨some 1, none, .agg [.nilFunc, .nilFunc, .nilFunc, .nilFunc, .nilFunc, .nilFunc, .nilFunc, .nilFunc, .nilFunc, .nilFunc, .nilFunc, .nilFunc, .nilFunc, .nilFunc, .nilFunc, .nilFunc, .nilFunc, .nilFunc, .nilFunc, .nilFunc, .nilFunc, .nilFunc, .nilFunc, .nilFunc, .nilFunc, .nilFunc, .nilFunc, .nilFunc, .nilFunc, .nilFunc, .nilFunc, .nilFunc, .nilFunc, .nilFunc] [(1, 1, (.func 57)), (3, 1, (.func 58)), (5, 1, (.func 58)), (7, 1, (.func 59)), (26, 1, (.func 60)), (8, 1, (.func 61)), (9, 1, (.func 61)), (19, 1, (.func 62)), (20, 1, (.func 62)), (11, 1, (.func 63)), (13, 1, (.func 63)), (28, 1, (.func 63)), (14, 1, (.func 63)), (16, 1, (.func 63)), (30, 1, (.func 63)), (21, 1, (.func 63)), (23, 1, (.func 63)), (25, 1, (.func 63)), (32, 1, (.func 63)), (33, 1, (.const .nilFunc))]⟩,
 ⟨none, none, .st 34 (.tmp 0) (.tmp 1)⟩])
 .ret))⟩
theorem ok35 : compF Tryz.prog Tryz.f35 = some c35 := by kernel_rfl
def c36 : CF := ⟨6, [],
 (.seq (.ops [⟨some 2, none, .mov (.tmp 0)⟩,
 ⟨some 3, none, .un .not (.tmp 2)⟩])
 (.cond (.tmp 3)
 (.ops [⟨some 4, none, .agg [] []⟩,
 ⟨some 5, none, .ifc 61 (.tmp 4)⟩,
 ⟨none, none, .bad⟩])
 .skip))⟩
theorem ok36 : compF Tryz.prog Tryz.f36 = some c36 := by kernel_rfl
def c37 : CF := ⟨30, [.tmp 4],
 (.seq (.ops [⟨some 4, none, .mov (.const (.slice none 0 0))⟩])
 (.seq (.ops [⟨some 5, none, .mov (.const (.slice none 0 0))⟩])
 (.seq (.seq (.ops [⟨some 7, none, .mov (.tmp 1)⟩,
 ⟨some 8, none, .bin .add (.tmp 7) (.const (.int .i64 1))⟩,
 ⟨some 6, none, .mov (.tmp 8)⟩])
 (.block 0 (.loop (.seq (.seq (.ops [⟨some 9, none, .mov (.tmp 6)⟩,
 ⟨some 10, none, .mov (.tmp 0)⟩,
 ⟨some 11, none, .nilck (.tmp 10)⟩,
 ⟨some 12, none, .fad (.tmp 11) 1⟩,
 ⟨some 13, none, .ld1 (.tmp 12)⟩,
 ⟨some 14, none, .mov (.tmp 1)⟩,
 ⟨some 15, none, .iad 1 (.tmp 13) (.tmp 14)⟩,
 ⟨some 16, none, .ld1 (.tmp 15)⟩,
 ⟨some 17, none, .bin .lss (.tmp 9) (.tmp 16)⟩])
 (.cond (.tmp 17)
 .skip
 (.exit 0)))
 (.seq (.block 1 (.ops [⟨some 25, none, .mov (.tmp 5)⟩,
 ⟨some 26, none, .mov (.tmp 6)⟩,
 ⟨some 27, none, .lits [(.int .i64 0)] 1 [(0, 1, (.tmp 26))]⟩,
 ⟨some 28, none, .app 1 8 (.tmp 25) (.tmp 27)⟩,
 ⟨some 5, none, .mov (.tmp 28)⟩]))
 (.ops [⟨some 18, none, .mov (.tmp 0)⟩,
 ⟨some 19, none, .nilck (.tmp 18)⟩,
 ⟨some 20, none, .fad (.tmp 19) 1⟩,
 ⟨some 21, none, .ld1 (.tmp 20)⟩,
 ⟨some 22, none, .mov (.tmp 6)⟩,
 ⟨some 23, none, .iad 1 (.tmp 21) (.tmp 22)⟩,
 ⟨some 24, none, .ld1 (.tmp 23)⟩,
 ⟨some 6, none, .mov (.tmp 24)⟩]))))))
 (.seq (.ops [⟨some 29, none, .mov (.tmp 5)⟩,
 ⟨some 4, none, .mov (.tmp 29)⟩])
 .ret))))⟩
theorem ok37 : compF Tryz.prog Tryz.f37 = some c37 := by kernel_rfl
def c38 : CF := ⟨76, [],
 (.seq (.ops [⟨some 6, none, .mov (.tmp 0)⟩,
 ⟨some 7, none, .nilck (.tmp 6)⟩,
 ⟨some 8, none, .fad (.tmp 7) 0⟩,
 ⟨some 9, none, .ld1 (.tmp 8)⟩,
 ⟨some 10, none, .mov (.tmp 1)⟩,
 ⟨some 11, none, .iad 6 (.tmp 9) (.tmp 10)⟩,
 ⟨some 12, none, .ld 6 (.tmp 11)⟩,
 ⟨some 4, none, .newz [(.int .i64 0), (.int .i64 0), (.int .i64 0), (.string ⟨#[]⟩), (.int .i32 0), (.int .i32 0)]⟩,
 ⟨none, none, .st 6 (.tmp 4) (.tmp 12)⟩])
 (.seq (.ops [⟨some 13, none, .fad (.tmp 4) 0⟩,
 ⟨some 14, none, .ld1 (.tmp 13)⟩])
 (.block 0 (.seq (.ops [⟨some 53, none, .bin .eql (.tmp 14) (.const (.int .i64 1))⟩,
 ⟨some 52, none, .mov (.tmp 53)⟩])
 (.cond (.tmp 52)
 (.ops [⟨some 54, none, .mov (.tmp 0)⟩,
 ⟨some 55, none, .fad (.tmp 4) 2⟩,
 ⟨some 56, none, .ld1 (.tmp 55)⟩,
 ⟨some 57, none, .agg [(.int .i64 0), (.int .i64 0), (.int .i64 0), (.string ⟨#[]⟩), (.int .i64 0), (.int .i64 0), (.int .i64 0)] [(0, 1, (.const (.int .i64 1))), (2, 1, (.tmp 56))]⟩,
 ⟨some 58, none, .mov (.tmp 1)⟩,
 ⟨some 59, none, .call (.func 40) [(.tmp 54), (.tmp 57), (.tmp 58)]⟩])
 (.seq (.ops [⟨some 61, none, .bin .eql (.tmp 14) (.const (.int .i64 2))⟩,
 ⟨some 60, none, .mov (.tmp 61)⟩])
 (.cond (.tmp 60)
 (.ops [⟨some 62, none, .mov (.tmp 0)⟩,
 ⟨some 63, none, .fad (.tmp 4) 2⟩,
 ⟨some 64, none, .ld1 (.tmp 63)⟩,
 ⟨some 65, none, .agg [(.int .i64 0), (.int .i64 0), (.int .i64 0), (.string ⟨#[]⟩), (.int .i64 0), (.int .i64 0), (.int .i64 0)] [(0, 1, (.const (.int .i64 2))), (2, 1, (.tmp 64))]⟩,
 ⟨some 66, none, .mov (.tmp 1)⟩,
 ⟨some 67, none, .call (.func 40) [(.tmp 62), (.tmp 65), (.tmp 66)]⟩])
 (.seq (.ops [⟨some 69, none, .bin .eql (.tmp 14) (.const (.int .i64 3))⟩,
 ⟨some 68, none, .mov (.tmp 69)⟩])
 (.cond (.tmp 68)
 (.ops [⟨some 70, none, .mov (.tmp 0)⟩,
 ⟨some 71, none, .fad (.tmp 4) 3⟩,
 ⟨some 72, none, .ld1 (.tmp 71)⟩,
 ⟨some 73, none, .agg [(.int .i64 0), (.int .i64 0), (.int .i64 0), (.string ⟨#[]⟩), (.int .i64 0), (.int .i64 0), (.int .i64 0)] [(0, 1, (.const (.int .i64 4))), (3, 1, (.tmp 72))]⟩,
 ⟨some 74, none, .mov (.tmp 1)⟩,
 ⟨some 75, none, .call (.func 40) [(.tmp 70), (.tmp 73), (.tmp 74)]⟩])
 (.seq (.ops [⟨some 15, none, .mov (.tmp 0)⟩,
 ⟨some 16, none, .agg [(.int .i64 0), (.int .i64 0), (.int .i64 0), (.string ⟨#[]⟩), (.int .i64 0), (.int .i64 0), (.int .i64 0)] [(0, 1, (.const (.int .i64 5)))]⟩,
 ⟨some 17, none, .mov (.tmp 1)⟩,
 ⟨some 18, none, .call (.func 40) [(.tmp 15), (.tmp 16), (.tmp 17)]⟩,
 ⟨some 5, none, .mov (.tmp 18)⟩])
 (.block 1 (.loop (.seq (.seq (.ops [⟨some 19, none, .mov (.tmp 0)⟩,
 ⟨some 20, none, .nilck (.tmp 19)⟩,
 ⟨some 21, none, .fad (.tmp 20) 0⟩,
 ⟨some 22, none, .ld1 (.tmp 21)⟩,
 ⟨some 23, none, .mov (.tmp 1)⟩,
 ⟨some 24, none, .iad 6 (.tmp 22) (.tmp 23)⟩,
 ⟨some 25, none, .fad (.tmp 24) 0⟩,
 ⟨some 26, none, .ld1 (.tmp 25)⟩,
 ⟨some 27, none, .bin .eql (.tmp 26) (.const (.int .i64 5))⟩])
 (.cond (.tmp 27)
 .skip
 (.exit 1)))
 (.seq (.block 2 (.seq (.ops [⟨some 36, none, .mov (.tmp 0)⟩,
 ⟨some 37, none, .mov (.tmp 1)⟩,
 ⟨some 38, none, .bin .add (.tmp 37) (.const (.int .i64 1))⟩,
 ⟨some 39, none, .call (.func 38) [(.tmp 36), (.tmp 38)]⟩])
 (.ops [⟨some 40, none, .mov (.tmp 0)⟩,
 ⟨some 41, none, .nilck (.tmp 40)⟩,
 ⟨some 42, none, .fad (.tmp 41) 3⟩,
 ⟨some 43, none, .fad (.tmp 42) 0⟩,
 ⟨some 44, none, .ld1 (.tmp 43)⟩,
 ⟨some 45, none, .mov (.tmp 5)⟩,
 ⟨some 46, none, .iad 7 (.tmp 44) (.tmp 45)⟩,
 ⟨some 47, none, .fad (.tmp 46) 1⟩,
 ⟨some 48, none, .ld1 (.tmp 47)⟩,
 ⟨some 49, none, .bin .add (.tmp 48) (.const (.int .i64 1))⟩,
 ⟨some 50, none, .iad 7 (.tmp 44) (.tmp 45)⟩,
 ⟨some 51, none, .fad (.tmp 50) 1⟩,
 ⟨none, none, .st 1 (.tmp 51) (.tmp 49)⟩])))
 (.ops [⟨some 28, none, .mov (.tmp 0)⟩,
 ⟨some 29, none, .nilck (.tmp 28)⟩,
 ⟨some 30, none, .fad (.tmp 29) 1⟩,
 ⟨some 31, none, .ld1 (.tmp 30)⟩,
 ⟨some 32, none, .mov (.tmp 1)⟩,
 ⟨some 33, none, .bin .add (.tmp 32) (.const (.int .i64 1))⟩,
 ⟨some 34, none, .iad 1 (.tmp 31) (.tmp 33)⟩,
 ⟨some 35, none, .ld1 (.tmp 34)⟩,
 ⟨some 1, none, .mov (.tmp 35)⟩])))))))))))))))⟩
theorem ok38 : compF Tryz.prog Tryz.f38 = some c38 := by kernel_rfl
def c39 : CF := ⟨39, [],
 (.seq (.seq (.ops [⟨some 8, none, .mov (.tmp 0)⟩,
 ⟨some 9, none, .nilck (.tmp 8)⟩,
 ⟨some 10, none, .fad (.tmp 9) 2⟩,
 ⟨some 11, none, .ld1 (.tmp 10)⟩,
 ⟨some 12, none, .mov (.tmp 1)⟩,
 ⟨some 13, none, .iad 1 (.tmp 11) (.tmp 12)⟩,
 ⟨some 14, none, .ld1 (.tmp 13)⟩])
 (.cond (.tmp 14)
 (.seq (.ops [⟨some 15, none, .mov (.tmp 0)⟩,
 ⟨some 16, none, .agg [(.int .i64 0), (.int .i64 0), (.int .i64 0), (.string ⟨#[]⟩), (.int .i64 0), (.int .i64 0), (.int .i64 0)] [(0, 1, (.const (.int .i64 3))), (1, 1, (.const (.int .i64 1)))]⟩,
 ⟨some 17, none, .mov (.tmp 1)⟩,
 ⟨some 18, none, .call (.func 40) [(.tmp 15), (.tmp 16), (.tmp 17)]⟩])
 (.seq (.ops [⟨some 19, none, .mov (.tmp 0)⟩,
 ⟨some 20, none, .mov (.tmp 1)⟩,
 ⟨some 21, none, .call (.func 38) [(.tmp 19), (.tmp 20)]⟩])
 .ret))
 .skip))
 (.seq (.ops [⟨some 22, none, .mov (.tmp 0)⟩,
 ⟨some 23, none, .agg [(.int .i64 0), (.int .i64 0), (.int .i64 0), (.string ⟨#[]⟩), (.int .i64 0), (.int .i64 0), (.int .i64 0)] [(0, 1, (.const (.int .i64 24))), (1, 1, (.const (.int .i64 2)))]⟩,
 ⟨some 24, none, .mov (.tmp 1)⟩,
 ⟨some 25, none, .call (.func 40) [(.tmp 22), (.tmp 23), (.tmp 24)]⟩])
 (.seq (.ops [⟨some 26, none, .mov (.tmp 0)⟩,
 ⟨some 27, none, .mov (.tmp 1)⟩,
 ⟨some 28, none, .call (.func 37) [(.tmp 26), (.tmp 27)]⟩,
 ⟨some 29, none, .lnl (.tmp 28)⟩,
 ⟨some 30, none, .mov (.const (.int .i64 0))⟩])
 (.block 0 (.loop (.seq (.ops [⟨some 31, none, .bin .lss (.tmp 30) (.tmp 29)⟩])
 (.seq (.cond (.tmp 31)
 .skip
 (.exit 0))
 (.seq (.block 1 (.seq (.ops [⟨some 32, none, .iad 1 (.tmp 28) (.tmp 30)⟩,
 ⟨some 33, none, .ld1 (.tmp 32)⟩,
 ⟨some 7, none, .mov (.tmp 33)⟩])
 (.ops [⟨some 34, none, .mov (.tmp 0)⟩,
 ⟨some 35, none, .mov (.tmp 7)⟩,
 ⟨some 36, none, .mov (.tmp 2)⟩,
 ⟨some 37, none, .call (.func 24) [(.tmp 34), (.tmp 35), (.tmp 36)]⟩])))
 (.ops [⟨some 38, none, .bin .add (.tmp 30) (.const (.int .i64 1))⟩,
 ⟨some 30, none, .mov (.tmp 38)⟩])))))))))⟩
theorem ok39 : compF Tryz.prog Tryz.f39 = some c39 := by kernel_rfl
def c40 : CF := ⟨54, [.tmp 6],
 (.seq (.ops [⟨some 4, none, .box (.tmp 1)⟩,
 ⟨some 6, none, .mov (.const (.int .i64 0))⟩])
 (.seq (.ops [⟨some 7, none, .mov (.tmp 0)⟩,
 ⟨some 8, none, .nilck (.tmp 7)⟩,
 ⟨some 9, none, .fad (.tmp 8) 3⟩,
 ⟨some 10, none, .fad (.tmp 9) 0⟩,
 ⟨some 11, none, .ld1 (.tmp 10)⟩,
 ⟨some 12, none, .lnl (.tmp 11)⟩,
 ⟨some 13, none, .bin .lss (.tmp 12) (.const (.int .i64 2000))⟩,
 ⟨some 14, none, .call (.func 36) [(.tmp 13)]⟩])
 (.seq (.draw [⟨some 15, none, .mov (.tmp 0)⟩,
 ⟨some 16, none, .mov (.tmp 0)⟩,
 ⟨some 17, none, .nilck (.tmp 16)⟩,
 ⟨some 18, none, .fad (.tmp 17) 3⟩,
 ⟨some 19, none, .fad (.tmp 18) 0⟩,
 ⟨some 20, none, .ld1 (.tmp 19)⟩,
 ⟨some 21, none, .ld 7 (.tmp 4)⟩,
 ⟨some 22, none, .lits [(.int .i64 0), (.int .i64 0), (.int .i64 0), (.string ⟨#[]⟩), (.int .i64 0), (.int .i64 0), (.int .i64 0)] 1 [(0, 7, (.tmp 21))]⟩,
 ⟨some 23, none, .app 7 64 (.tmp 20) (.tmp 22)⟩,
 ⟨some 24, none, .nilck (.tmp 15)⟩,
 ⟨some 25, none, .fad (.tmp 24) 3⟩,
 ⟨some 26, none, .fad (.tmp 25) 0⟩,
 ⟨none, none, .st 1 (.tmp 26) (.tmp 23)⟩] [(0, 1), (0, 2), (0, 3), (0, 4), (0, 5), (0, 6), (1, 6), (2, 6), (3, 6), (4, 6), (5, 6), (0, 7), (1, 7), (2, 7), (3, 7), (4, 7), (5, 7), (0, 8)])
 (.seq (.draw [⟨some 27, none, .mov (.tmp 0)⟩,
 ⟨some 28, none, .mov (.tmp 0)⟩,
 ⟨some 29, none, .nilck (.tmp 28)⟩,
 ⟨some 30, none, .fad (.tmp 29) 3⟩,
 ⟨some 31, none, .fad (.tmp 30) 1⟩,
 ⟨some 32, none, .ld1 (.tmp 31)⟩,
 ⟨some 33, none, .mov (.tmp 0)⟩,
 ⟨some 34, none, .nilck (.tmp 33)⟩,
 ⟨some 35, none, .fad (.tmp 34) 0⟩,
 ⟨some 36, none, .ld1 (.tmp 35)⟩,
 ⟨some 37, none, .mov (.tmp 2)⟩,
 ⟨some 38, none, .iad 6 (.tmp 36) (.tmp 37)⟩,
 ⟨some 39, none, .fad (.tmp 38) 5⟩,
 ⟨some 40, none, .ld1 (.tmp 39)⟩,
 ⟨some 41, none, .cvi .i64 (.tmp 40)⟩,
 ⟨some 42, none, .lits [(.int .i64 0)] 1 [(0, 1, (.tmp 41))]⟩,
 ⟨some 43, none, .app 1 8 (.tmp 32) (.tmp 42)⟩,
 ⟨some 44, none, .nilck (.tmp 27)⟩,
 ⟨some 45, none, .fad (.tmp 44) 3⟩,
 ⟨some 46, none, .fad (.tmp 45) 1⟩,
 ⟨none, none, .st 1 (.tmp 46) (.tmp 43)⟩] [(0, 1), (0, 2), (0, 3), (0, 4), (0, 5), (0, 6), (1, 6), (2, 6), (3, 6), (4, 6), (5, 6), (0, 7), (1, 7), (2, 7), (3, 7), (4, 7), (5, 7), (0, 8), (1, 8), (2, 8), (3, 8), (4, 8), (5, 8), (0, 9), (1, 9), (2, 9), (3, 9), (4, 9), (5, 9), (0, 10), (1, 10), (2, 10), (3, 10), (4, 10), (5, 10), (6, 10), (7, 10), (8, 10), (9, 10), (0, 11), (1, 11), (2, 11), (3, 11), (4, 11), (5, 11), (0, 12), (1, 12), (2, 12), (3, 12), (4, 12), (5, 12), (0, 13), (1, 13), (2, 13), (3, 13), (4, 13), (5, 13), (0, 14), (1, 14), (2, 14), (3, 14), (4, 14), (5, 14), (0, 15), (1, 15), (2, 15), (3, 15), (4, 15), (5, 15), (0, 16)])
 (.seq (.ops [⟨some 47, none, .mov (.tmp 0)⟩,
 ⟨some 48, none, .nilck (.tmp 47)⟩,
 ⟨some 49, none, .fad (.tmp 48) 3⟩,
 ⟨some 50, none, .fad (.tmp 49) 0⟩,
 ⟨some 51, none, .ld1 (.tmp 50)⟩,
 ⟨some 52, none, .lnl (.tmp 51)⟩,
 ⟨some 53, none, .bin .sub (.tmp 52) (.const (.int .i64 1))⟩,
 ⟨some 6, none, .mov (.tmp 53)⟩])
 .ret)))))⟩
theorem ok40 : compF Tryz.prog Tryz.f40 = some c40 := by kernel_rfl
def c41 : CF := ⟨40, [],
 (.seq (.ops [⟨some 7, none, .mov (.tmp 0)⟩,
 ⟨some 8, none, .mov (.tmp 1)⟩,
 ⟨some 9, none, .call (.func 64) [(.tmp 7), (.tmp 8), (.const (.int .i64 8)), (.const (.int .i32 0))]⟩,
 ⟨some 10, none, .call (.func 36) [(.tmp 9)]⟩])
 (.seq (.ops [⟨some 11, none, .mov (.tmp 0)⟩,
 ⟨some 12, none, .nilck (.tmp 11)⟩,
 ⟨some 13, none, .fad (.tmp 12) 0⟩,
 ⟨some 14, none, .ld1 (.tmp 13)⟩,
 ⟨some 15, none, .mov (.tmp 1)⟩,
 ⟨some 16, none, .iad 6 (.tmp 14) (.tmp 15)⟩,
 ⟨some 17, none, .fad (.tmp 16) 2⟩,
 ⟨some 18, none, .ld1 (.tmp 17)⟩,
 ⟨some 6, none, .mov (.tmp 18)⟩])
 (.seq (.ops [⟨some 19, none, .mov (.tmp 0)⟩,
 ⟨some 20, none, .mov (.tmp 6)⟩,
 ⟨some 21, none, .bin .add (.tmp 20) (.const (.int .i64 1))⟩,
 ⟨some 22, none, .agg [(.int .i64 0), (.int .i64 0), (.int .i64 0), (.string ⟨#[]⟩), (.int .i64 0), (.int .i64 0), (.int .i64 0)] [(0, 1, (.const (.int .i64 8))), (1, 1, (.tmp 21))]⟩,
 ⟨some 23, none, .mov (.tmp 1)⟩,
 ⟨some 24, none, .call (.func 40) [(.tmp 19), (.tmp 22), (.tmp 23)]⟩])
 (.seq (.seq (.ops [⟨some 25, none, .mov (.tmp 6)⟩,
 ⟨some 26, none, .mov (.const (.int .i64 0))⟩])
 (.block 0 (.loop (.seq (.ops [⟨some 27, none, .bin .lss (.tmp 26) (.tmp 25)⟩])
 (.seq (.cond (.tmp 27)
 .skip
 (.exit 0))
 (.seq (.block 1 (.ops [⟨some 28, none, .mov (.tmp 2)⟩,
 ⟨some 29, none, .mov (.tmp 0)⟩,
 ⟨some 30, none, .mov (.tmp 1)⟩,
 ⟨some 31, none, .call (.func 66) [(.tmp 29), (.tmp 30)]⟩,
 ⟨some 32, none, .lits [(.int .i64 0)] 1 [(0, 1, (.tmp 31))]⟩,
 ⟨some 33, none, .call (.func 65) [(.tmp 28), (.tmp 32)]⟩,
 ⟨some 2, none, .mov (.tmp 33)⟩]))
 (.ops [⟨some 34, none, .bin .add (.tmp 26) (.const (.int .i64 1))⟩,
 ⟨some 26, none, .mov (.tmp 34)⟩])))))))
 (.ops [⟨some 35, none, .mov (.tmp 0)⟩,
 ⟨some 36, none, .mov (.tmp 1)⟩,
 ⟨some 37, none, .bin .add (.tmp 36) (.const (.int .i64 1))⟩,
 ⟨some 38, none, .mov (.tmp 2)⟩,
 ⟨some 39, none, .call (.func 24) [(.tmp 35), (.tmp 37), (.tmp 38)]⟩])))))⟩
theorem ok41 : compF Tryz.prog Tryz.f41 = some c41 := by kernel_rfl
def c42 : CF := ⟨14, [.tmp 2, .tmp 3],
 (.seq (.ops [⟨some 2, none, .mov (.const (.int .i64 0))⟩,
 ⟨some 3, none, .mov (.const (.int .i64 0))⟩])
 (.seq (.ops [⟨some 7, none, .mov (.tmp 0)⟩,
 ⟨some 8, none, .call (.func 67) [(.tmp 7)]⟩,
 ⟨some 6, none, .mov (.tmp 8)⟩,
 ⟨some 9, none, .ext (.tmp 6) 0⟩,
 ⟨some 10, none, .ext (.tmp 6) 1⟩,
 ⟨some 11, none, .ext (.tmp 6) 2⟩,
 ⟨some 4, none, .mov (.tmp 9)⟩,
 ⟨some 5, none, .mov (.tmp 10)⟩,
 ⟨some 3, none, .mov (.tmp 11)⟩])
 (.seq (.ops [⟨some 12, none, .mov (.tmp 5)⟩,
 ⟨some 13, none, .mov (.tmp 3)⟩,
 ⟨some 2, none, .mov (.tmp 12)⟩,
 ⟨some 3, none, .mov (.tmp 13)⟩])
 .ret)))⟩
theorem ok42 : compF Tryz.prog Tryz.f42 = some c42 := by kernel_rfl
def c43 : CF := ⟨44, [.tmp 2],
 (.seq (.ops [⟨some 2, none, .mov (.const (.pointer none))⟩])
 (.seq (.ops [⟨some 6, none, .mov (.tmp 0)⟩,
 ⟨some 7, none, .mov (.tmp 0)⟩,
 ⟨some 8, none, .lnl (.tmp 7)⟩,
 ⟨some 9, none, .mks 8 [(.int .i64 0)] (.tmp 8) (.tmp 8)⟩,
 ⟨some 10, none, .agg [(.slice none 0 0), (.slice none 0 0)] [(0, 1, (.tmp 6)), (1, 1, (.tmp 9))]⟩,
 ⟨some 11, none, .box (.tmp 10)⟩,
 ⟨some 3, none, .mov (.tmp 11)⟩])
 (.seq (.seq (.ops [⟨some 12, none, .mov (.tmp 0)⟩,
 ⟨some 13, none, .lnl (.tmp 12)⟩,
 ⟨some 14, none, .bin .sub (.tmp 13) (.const (.int .i64 1))⟩,
 ⟨some 4, none, .mov (.tmp 14)⟩])
 (.block 0 (.loop (.seq (.seq (.ops [⟨some 15, none, .mov (.tmp 4)⟩,
 ⟨some 16, none, .bin .geq (.tmp 15) (.const (.int .i64 0))⟩])
 (.cond (.tmp 16)
 .skip
 (.exit 0)))
 (.seq (.block 1 (.seq (.ops [⟨some 19, none, .mov (.tmp 4)⟩,
 ⟨some 20, none, .bin .add (.tmp 19) (.const (.int .i64 1))⟩,
 ⟨some 5, none, .mov (.tmp 20)⟩])
 (.seq (.seq (.ops [⟨some 21, none, .mov (.tmp 0)⟩,
 ⟨some 22, none, .mov (.tmp 4)⟩,
 ⟨some 23, none, .iad 7 (.tmp 21) (.tmp 22)⟩,
 ⟨some 24, none, .fad (.tmp 23) 1⟩,
 ⟨some 25, none, .ld1 (.tmp 24)⟩,
 ⟨some 26, none, .mov (.const (.int .i64 0))⟩])
 (.block 2 (.loop (.seq (.ops [⟨some 27, none, .bin .lss (.tmp 26) (.tmp 25)⟩])
 (.seq (.cond (.tmp 27)
 .skip
 (.exit 2))
 (.seq (.block 3 (.ops [⟨some 28, none, .mov (.tmp 3)⟩,
 ⟨some 29, none, .nilck (.tmp 28)⟩,
 ⟨some 30, none, .fad (.tmp 29) 1⟩,
 ⟨some 31, none, .ld1 (.tmp 30)⟩,
 ⟨some 32, none, .mov (.tmp 5)⟩,
 ⟨some 33, none, .iad 1 (.tmp 31) (.tmp 32)⟩,
 ⟨some 34, none, .ld1 (.tmp 33)⟩,
 ⟨some 5, none, .mov (.tmp 34)⟩]))
 (.ops [⟨some 35, none, .bin .add (.tmp 26) (.const (.int .i64 1))⟩,
 ⟨some 26, none, .mov (.tmp 35)⟩])))))))
 (.ops [⟨some 36, none, .mov (.tmp 3)⟩,
 ⟨some 37, none, .nilck (.tmp 36)⟩,
 ⟨some 38, none, .fad (.tmp 37) 1⟩,
 ⟨some 39, none, .ld1 (.tmp 38)⟩,
 ⟨some 40, none, .mov (.tmp 4)⟩,
 ⟨some 41, none, .mov (.tmp 5)⟩,
 ⟨some 42, none, .iad 1 (.tmp 39) (.tmp 40)⟩,
 ⟨none, none, .st 1 (.tmp 42) (.tmp 41)⟩]))))
 (.ops [⟨some 17, none, .mov (.tmp 4)⟩,
 ⟨some 18, none, .bin .sub (.tmp 17) (.const (.int .i64 1))⟩,
 ⟨some 4, none, .mov (.tmp 18)⟩]))))))
 (.seq (.ops [⟨some 43, none, .mov (.tmp 3)⟩,
 ⟨some 2, none, .mov (.tmp 43)⟩])
 .ret))))⟩
theorem ok43 : compF Tryz.prog Tryz.f43 = some c43 := by kernel_rfl
def c44 : CF := ⟨69, [.tmp 4, .tmp 5],
 (.seq (.ops [⟨some 4, none, .mov (.const (.bool false))⟩,
 ⟨some 5, none, .mov (.const (.bool false))⟩])
 (.seq (.seq (.ops [⟨some 11, none, .mov (.tmp 0)⟩,
 ⟨some 12, none, .nilck (.tmp 11)⟩,
 ⟨some 13, none, .fad (.tmp 12) 0⟩,
 ⟨some 14, none, .ld1 (.tmp 13)⟩,
 ⟨some 15, none, .mov (.tmp 1)⟩,
 ⟨some 16, none, .iad 7 (.tmp 14) (.tmp 15)⟩,
 ⟨some 17, none, .fad (.tmp 16) 0⟩,
 ⟨some 18, none, .ld1 (.tmp 17)⟩])
 (.block 0 (.seq (.seq (.ops [⟨some 20, none, .bin .eql (.tmp 18) (.const (.int .i64 1))⟩,
 ⟨some 19, none, .mov (.tmp 20)⟩])
 (.cond (.tmp 19)
 .skip
 (.ops [⟨some 21, none, .bin .eql (.tmp 18) (.const (.int .i64 2))⟩,
 ⟨some 19, none, .mov (.tmp 21)⟩])))
 (.cond (.tmp 19)
 (.seq (.ops [⟨some 4, none, .mov (.const (.bool true))⟩,
 ⟨some 5, none, .mov (.const (.bool false))⟩])
 .ret)
 (.seq (.ops [⟨some 23, none, .bin .eql (.tmp 18) (.const (.int .i64 3))⟩,
 ⟨some 22, none, .mov (.tmp 23)⟩])
 (.cond (.tmp 22)
 (.seq (.draw [⟨some 24, none, .mov (.tmp 0)⟩,
 ⟨some 25, none, .nilck (.tmp 24)⟩,
 ⟨some 26, none, .fad (.tmp 25) 0⟩,
 ⟨some 27, none, .ld1 (.tmp 26)⟩,
 ⟨some 28, none, .mov (.tmp 1)⟩,
 ⟨some 29, none, .bin .add (.tmp 28) (.const (.int .i64 1))⟩,
 ⟨some 30, none, .iad 7 (.tmp 27) (.tmp 29)⟩,
 ⟨some 31, none, .fad (.tmp 30) 0⟩,
 ⟨some 32, none, .ld1 (.tmp 31)⟩,
 ⟨some 33, none, .bin .eql (.tmp 32) (.const (.int .i64 5))⟩,
 ⟨some 4, none, .mov (.const (.bool true))⟩,
 ⟨some 5, none, .mov (.tmp 33)⟩] [(0, 4), (1, 4), (2, 4), (3, 4), (0, 5), (1, 5), (2, 5), (3, 5), (0, 10), (1, 10), (2, 10), (3, 10), (4, 10), (5, 10), (6, 10), (7, 10), (8, 10), (9, 10)])
 .ret)
 (.seq (.ops [⟨some 35, none, .bin .eql (.tmp 18) (.const (.int .i64 24))⟩,
 ⟨some 34, none, .mov (.tmp 35)⟩])
 (.cond (.tmp 34)
 (.seq (.ops [⟨some 36, none, .mov (.tmp 0)⟩,
 ⟨some 37, none, .mov (.tmp 1)⟩,
 ⟨some 38, none, .call (.func 68) [(.tmp 36), (.tmp 37)]⟩,
 ⟨some 6, none, .mov (.tmp 38)⟩])
 (.seq (.ops [⟨some 40, none, .mov (.tmp 0)⟩,
 ⟨some 41, none, .mov (.tmp 6)⟩,
 ⟨some 42, none, .iad 1 (.tmp 41) (.const (.int .i64 0))⟩,
 ⟨some 43, none, .ld1 (.tmp 42)⟩,
 ⟨some 44, none, .call (.func 44) [(.tmp 40), (.tmp 43)]⟩,
 ⟨some 39, none, .mov (.tmp 44)⟩,
 ⟨some 45, none, .ext (.tmp 39) 0⟩,
 ⟨some 46, none, .ext (.tmp 39) 1⟩,
 ⟨some 7, none, .mov (.tmp 45)⟩,
 ⟨some 8, none, .mov (.tmp 46)⟩])
 (.seq (.ops [⟨some 48, none, .mov (.tmp 0)⟩,
 ⟨some 49, none, .mov (.tmp 6)⟩,
 ⟨some 50, none, .iad 1 (.tmp 49) (.const (.int .i64 1))⟩,
 ⟨some 51, none, .ld1 (.tmp 50)⟩,
 ⟨some 52, none, .call (.func 44) [(.tmp 48), (.tmp 51)]⟩,
 ⟨some 47, none, .mov (.tmp 52)⟩,
 ⟨some 53, none, .ext (.tmp 47) 0⟩,
 ⟨some 54, none, .ext (.tmp 47) 1⟩,
 ⟨some 9, none, .mov (.tmp 53)⟩,
 ⟨some 10, none, .mov (.tmp 54)⟩])
 (.seq (.ops [⟨some 55, none, .mov (.tmp 7)⟩,
 ⟨some 56, none, .mov (.tmp 55)⟩,
 ⟨some 57, (some (56, true)), .mov (.tmp 9)⟩,
 ⟨some 58, none, .pick (.tmp 56) (.tmp 57) (.const (.bool false))⟩,
 ⟨some 59, none, .mov (.tmp 58)⟩,
 ⟨some 60, (some (59, true)), .mov (.tmp 10)⟩,
 ⟨some 61, none, .pick (.tmp 59) (.tmp 60) (.const (.bool false))⟩,
 ⟨some 62, none, .mov (.tmp 7)⟩,
 ⟨some 63, none, .mov (.tmp 62)⟩,
 ⟨some 64, (some (63, true)), .mov (.tmp 9)⟩,
 ⟨some 65, none, .pick (.tmp 63) (.tmp 64) (.const (.bool false))⟩,
 ⟨some 66, none, .mov (.tmp 65)⟩,
 ⟨some 67, (some (66, true)), .mov (.tmp 10)⟩,
 ⟨some 68, none, .pick (.tmp 66) (.tmp 67) (.const (.bool false))⟩,
 ⟨some 4, none, .mov (.tmp 61)⟩,
 ⟨some 5, none, .mov (.tmp 68)⟩])
 .ret))))
 .skip))))))))
 (.seq (.ops [⟨some 4, none, .mov (.const (.bool false))⟩,
 ⟨some 5, none, .mov (.const (.bool false))⟩])
 .ret)))⟩
theorem ok44 : compF Tryz.prog Tryz.f44 = some c44 := by kernel_rfl
def c45 : CF := ⟨19, [.tmp 4, .tmp 5],
 (.seq (.ops [⟨some 2, none, .box (.tmp 0)⟩,
 ⟨some 4, none, .mov (.const (.int .i64 0))⟩,
 ⟨some 5, none, .mov (.const (.int .i64 0))⟩])
 (.seq (.seq (.ops [⟨some 6, none, .fad (.tmp 2) 0⟩,
 ⟨some 7, none, .ld1 (.tmp 6)⟩])
 (.block 0 (.seq (.block 2 (.seq (.block 1 (.seq (.seq (.seq (.ops [⟨some 9, none, .bin .eql (.tmp 7) (.const (.int .i64 11))⟩,
 ⟨some 8, none, .mov (.tmp 9)⟩])
 (.cond (.tmp 8)
 (.exit 1)
 .skip))
 (.seq (.ops [⟨some 11, none, .bin .eql (.tmp 7) (.const (.int .i64 8))⟩,
 ⟨some 10, none, .mov (.tmp 11)⟩])
 (.cond (.tmp 10)
 (.exit 2)
 .skip)))
 (.exit 0)))
 (.ops [⟨some 12, none, .fad (.tmp 2) 2⟩,
 ⟨some 13, none, .ld1 (.tmp 12)⟩,
 ⟨some 5, none, .mov (.tmp 13)⟩])))
 (.seq (.seq (.ops [⟨some 14, none, .mov (.tmp 1)⟩])
 (.cond (.tmp 14)
 (.ops [⟨some 15, none, .fad (.tmp 2) 2⟩,
 ⟨some 16, none, .ld1 (.tmp 15)⟩,
 ⟨some 4, none, .mov (.tmp 16)⟩])
 .skip))
 (.exit 0)))))
 (.seq (.ops [⟨some 17, none, .mov (.tmp 4)⟩,
 ⟨some 18, none, .mov (.tmp 5)⟩,
 ⟨some 4, none, .mov (.tmp 17)⟩,
 ⟨some 5, none, .mov (.tmp 18)⟩])
 .ret)))⟩
theorem ok45 : compF Tryz.prog Tryz.f45 = some c45 := by kernel_rfl
def c46 : CF := ⟨57, [.tmp 2],
 (.seq (.ops [⟨some 2, none, .mov (.const (.bool false))⟩])
 (.seq (.seq (.ops [⟨some 10, none, .mov (.tmp 0)⟩,
 ⟨some 11, none, .bin .eql (.tmp 10) (.const (.string ⟨#[]⟩))⟩,
 ⟨some 12, none, .mov (.tmp 11)⟩,
 ⟨some 13, (some (12, false)), .mov (.tmp 0)⟩,
 ⟨some 14, (some (12, false)), .lns (.tmp 13)⟩,
 ⟨some 15, (some (12, false)), .bin .gtr (.tmp 14) (.const (.int .i64 24))⟩,
 ⟨some 16, none, .pick (.tmp 12) (.const (.bool true)) (.tmp 15)⟩])
 (.cond (.tmp 16)
 (.seq (.ops [⟨some 2, none, .mov (.const (.bool false))⟩])
 .ret)
 .skip))
 (.seq (.ops [⟨some 17, none, .mov (.tmp 0)⟩,
 ⟨some 18, none, .call (.func 70) [(.tmp 17), (.const (.string ⟨#[43]⟩))]⟩,
 ⟨some 19, none, .call (.func 70) [(.tmp 18), (.const (.string ⟨#[45]⟩))]⟩,
 ⟨some 20, none, .call (.func 69) [(.tmp 19), (.const (.string ⟨#[48, 49, 50, 51, 52, 53, 54, 55, 56, 57]⟩))]⟩,
 ⟨some 3, none, .mov (.tmp 20)⟩])
 (.seq (.seq (.ops [⟨some 21, none, .mov (.tmp 3)⟩,
 ⟨some 22, none, .bin .eql (.tmp 21) (.const (.string ⟨#[]⟩))⟩,
 ⟨some 23, none, .mov (.tmp 22)⟩,
 ⟨some 24, (some (23, true)), .mov (.tmp 0)⟩,
 ⟨some 25, (some (23, true)), .call (.func 71) [(.tmp 24), (.const (.string ⟨#[48, 49, 50, 51, 52, 53, 54, 55, 56, 57]⟩))]⟩,
 ⟨some 26, none, .pick (.tmp 23) (.tmp 25) (.const (.bool false))⟩,
 ⟨some 27, none, .mov (.tmp 26)⟩,
 ⟨some 28, (some (27, true)), .mov (.tmp 0)⟩,
 ⟨some 29, (some (27, true)), .call (.func 72) [(.tmp 28), (.const (.string ⟨#[43, 45]⟩))]⟩,
 ⟨some 30, (some (27, true)), .un .not (.tmp 29)⟩,
 ⟨some 31, none, .pick (.tmp 27) (.tmp 30) (.const (.bool false))⟩])
 (.cond (.tmp 31)
 (.seq (.ops [⟨some 2, none, .mov (.const (.bool false))⟩])
 .ret)
 .skip))
 (.seq (.ops [⟨some 33, none, .mov (.tmp 0)⟩,
 ⟨some 34, none, .cvb (.tmp 33)⟩,
 ⟨some 35, none, .call (.func 73) [(.tmp 34)]⟩,
 ⟨some 32, none, .mov (.tmp 35)⟩,
 ⟨some 36, none, .ext (.tmp 32) 0⟩,
 ⟨some 37, none, .ext (.tmp 32) 1⟩,
 ⟨some 4, none, .mov (.tmp 36)⟩,
 ⟨some 5, none, .mov (.tmp 37)⟩])
 (.seq (.seq (.ops [⟨some 38, none, .mov (.tmp 5)⟩,
 ⟨some 39, none, .bin .neq (.tmp 38) (.const (.int .i64 0))⟩])
 (.cond (.tmp 39)
 (.seq (.ops [⟨some 2, none, .mov (.const (.bool false))⟩])
 .ret)
 .skip))
 (.seq (.seq (.ops [⟨some 40, none, .mov (.tmp 4)⟩,
 ⟨some 41, none, .lnl (.tmp 40)⟩,
 ⟨some 42, none, .mov (.const (.int .i64 0))⟩])
 (.block 0 (.loop (.seq (.ops [⟨some 43, none, .bin .lss (.tmp 42) (.tmp 41)⟩])
 (.seq (.cond (.tmp 43)
 .skip
 (.exit 0))
 (.seq (.block 1 (.seq (.ops [⟨some 44, none, .iad 1 (.tmp 40) (.tmp 42)⟩,
 ⟨some 45, none, .ld1 (.tmp 44)⟩,
 ⟨some 7, none, .mov (.tmp 45)⟩])
 (.seq (.ops [⟨some 47, none, .mov (.tmp 7)⟩,
 ⟨some 48, none, .call (.func 74) [(.tmp 47)]⟩,
 ⟨some 46, none, .mov (.tmp 48)⟩,
 ⟨some 49, none, .ext (.tmp 46) 0⟩,
 ⟨some 50, none, .ext (.tmp 46) 1⟩,
 ⟨some 8, none, .mov (.tmp 49)⟩,
 ⟨some 9, none, .mov (.tmp 50)⟩])
 (.seq (.ops [⟨some 51, none, .mov (.tmp 8)⟩])
 (.block 2 (.seq (.seq (.ops [⟨some 53, none, .bin .eql (.tmp 51) (.const (.int .i64 9))⟩,
 ⟨some 52, none, .mov (.tmp 53)⟩])
 (.cond (.tmp 52)
 .skip
 (.seq (.ops [⟨some 54, none, .bin .eql (.tmp 51) (.const (.int .i64 7))⟩,
 ⟨some 52, none, .mov (.tmp 54)⟩])
 (.cond (.tmp 52)
 .skip
 (.ops [⟨some 55, none, .bin .eql (.tmp 51) (.const (.int .i64 8))⟩,
 ⟨some 52, none, .mov (.tmp 55)⟩])))))
 (.cond (.tmp 52)
 .skip
 (.seq (.ops [⟨some 2, none, .mov (.const (.bool false))⟩])
 .ret))))))))
 (.ops [⟨some 56, none, .bin .add (.tmp 42) (.const (.int .i64 1))⟩,
 ⟨some 42, none, .mov (.tmp 56)⟩])))))))
 (.seq (.ops [⟨some 2, none, .mov (.const (.bool true))⟩])
 .ret))))))))⟩
theorem ok46 : compF Tryz.prog Tryz.f46 = some c46 := by kernel_rfl
def c47 : CF := ⟨25, [.tmp 5],
 (.seq (.ops [⟨some 5, none, .mov (.const (.int .i64 0))⟩])
 (.seq (.ops [⟨some 7, none, .mov (.tmp 0)⟩,
 ⟨some 8, none, .bin .add (.tmp 7) (.const (.int .i64 1))⟩,
 ⟨some 6, none, .mov (.tmp 8)⟩])
 (.seq (.seq (.ops [⟨some 9, none, .ld1 (.tmp 1)⟩,
 ⟨some 10, none, .mov (.tmp 0)⟩,
 ⟨some 11, none, .iad 6 (.tmp 9) (.tmp 10)⟩,
 ⟨some 12, none, .fad (.tmp 11) 1⟩,
 ⟨some 13, none, .ld1 (.tmp 12)⟩,
 ⟨some 14, none, .mov (.const (.int .i64 0))⟩])
 (.block 0 (.loop (.seq (.ops [⟨some 15, none, .bin .lss (.tmp 14) (.tmp 13)⟩])
 (.seq (.cond (.tmp 15)
 .skip
 (.exit 0))
 (.seq (.block 1 (.ops [⟨some 16, none, .ld1 (.tmp 2)⟩,
 ⟨some 17, none, .mov (.tmp 6)⟩,
 ⟨some 18, none, .call (.tmp 16) [(.tmp 17)]⟩,
 ⟨some 6, none, .mov (.tmp 18)⟩]))
 (.ops [⟨some 19, none, .bin .add (.tmp 14) (.const (.int .i64 1))⟩,
 ⟨some 14, none, .mov (.tmp 19)⟩])))))))
 (.seq (.ops [⟨some 20, none, .ld1 (.tmp 3)⟩,
 ⟨some 21, none, .mov (.tmp 0)⟩,
 ⟨some 22, none, .mov (.tmp 6)⟩,
 ⟨some 23, none, .iad 1 (.tmp 20) (.tmp 21)⟩,
 ⟨none, none, .st 1 (.tmp 23) (.tmp 22)⟩])
 (.seq (.ops [⟨some 24, none, .mov (.tmp 6)⟩,
 ⟨some 5, none, .mov (.tmp 24)⟩])
 .ret)))))⟩
theorem ok47 : compF Tryz.prog Tryz.f47 = some c47 := by kernel_rfl
def c48 : CF := ⟨26, [.tmp 6],
 (.seq (.ops [⟨some 6, none, .mov (.const (.slice none 0 0))⟩])
 (.seq (.ops [⟨some 7, none, .mov (.const (.slice none 0 0))⟩])
 (.seq (.seq (.ops [⟨some 9, none, .mov (.tmp 2)⟩,
 ⟨some 10, none, .bin .add (.tmp 9) (.const (.int .i64 1))⟩,
 ⟨some 8, none, .mov (.tmp 10)⟩])
 (.block 0 (.loop (.seq (.seq (.ops [⟨some 11, none, .mov (.tmp 8)⟩,
 ⟨some 12, none, .mov (.tmp 1)⟩,
 ⟨some 13, none, .mov (.tmp 2)⟩,
 ⟨some 14, none, .iad 1 (.tmp 12) (.tmp 13)⟩,
 ⟨some 15, none, .ld1 (.tmp 14)⟩,
 ⟨some 16, none, .bin .lss (.tmp 11) (.tmp 15)⟩])
 (.cond (.tmp 16)
 .skip
 (.exit 0)))
 (.seq (.block 1 (.ops [⟨some 21, none, .mov (.tmp 7)⟩,
 ⟨some 22, none, .mov (.tmp 8)⟩,
 ⟨some 23, none, .lits [(.int .i64 0)] 1 [(0, 1, (.tmp 22))]⟩,
 ⟨some 24, none, .app 1 8 (.tmp 21) (.tmp 23)⟩,
 ⟨some 7, none, .mov (.tmp 24)⟩]))
 (.ops [⟨some 17, none, .mov (.tmp 1)⟩,
 ⟨some 18, none, .mov (.tmp 8)⟩,
 ⟨some 19, none, .iad 1 (.tmp 17) (.tmp 18)⟩,
 ⟨some 20, none, .ld1 (.tmp 19)⟩,
 ⟨some 8, none, .mov (.tmp 20)⟩]))))))
 (.seq (.ops [⟨some 25, none, .mov (.tmp 7)⟩,
 ⟨some 6, none, .mov (.tmp 25)⟩])
 .ret))))⟩
theorem ok48 : compF Tryz.prog Tryz.f48 = some c48 := by kernel_rfl
def c49 : CF := ⟨13, [.tmp 2],
 (.seq (.ops [⟨some 2, none, .mov (.const (.bool false))⟩])
 (.seq (.ops [⟨some 3, none, .mov (.tmp 0)⟩,
 ⟨some 4, none, .bin .geq (.tmp 3) (.const (.int .i64 1))⟩,
 ⟨some 5, none, .mov (.tmp 4)⟩,
 ⟨some 6, (some (5, true)), .mov (.tmp 0)⟩,
 ⟨some 7, (some (5, true)), .bin .leq (.tmp 6) (.const (.int .i64 6))⟩,
 ⟨some 8, none, .pick (.tmp 5) (.tmp 7) (.const (.bool false))⟩,
 ⟨some 9, none, .mov (.tmp 8)⟩,
 ⟨some 10, (some (9, false)), .mov (.tmp 0)⟩,
 ⟨some 11, (some (9, false)), .bin .eql (.tmp 10) (.const (.int .i64 8))⟩,
 ⟨some 12, none, .pick (.tmp 9) (.const (.bool true)) (.tmp 11)⟩,
 ⟨some 2, none, .mov (.tmp 12)⟩])
 .ret))⟩
theorem ok49 : compF Tryz.prog Tryz.f49 = some c49 := by kernel_rfl
def c50 : CF := ⟨88, [],
 (.seq (.ops [⟨some 18, none, .ld1 (.tmp 1)⟩,
 ⟨some 19, none, .mov (.tmp 0)⟩,
 ⟨some 20, none, .iad 6 (.tmp 18) (.tmp 19)⟩,
 ⟨some 21, none, .ld 6 (.tmp 20)⟩,
 ⟨some 8, none, .newz [(.int .i64 0), (.int .i64 0), (.int .i64 0), (.string ⟨#[]⟩), (.int .i32 0), (.int .i32 0)]⟩,
 ⟨none, none, .st 6 (.tmp 8) (.tmp 21)⟩])
 (.seq (.ops [⟨some 22, none, .ld1 (.tmp 1)⟩,
 ⟨some 23, none, .ld1 (.tmp 2)⟩,
 ⟨some 24, none, .mov (.tmp 0)⟩,
 ⟨some 25, none, .call (.func 48) [(.tmp 22), (.tmp 23), (.tmp 24)]⟩,
 ⟨some 9, none, .mov (.tmp 25)⟩])
 (.seq (.ops [⟨some 10, none, .mov (.const (.slice none 0 0))⟩])
 (.seq (.seq (.ops [⟨some 26, none, .fad (.tmp 8) 0⟩,
 ⟨some 27, none, .ld1 (.tmp 26)⟩])
 (.block 0 (.seq (.ops [⟨some 29, none, .bin .eql (.tmp 27) (.const (.int .i64 7))⟩,
 ⟨some 28, none, .mov (.tmp 29)⟩])
 (.cond (.tmp 28)
 (.seq (.ops [⟨some 30, none, .fad (.tmp 8) 2⟩,
 ⟨some 31, none, .ld1 (.tmp 30)⟩,
 ⟨some 11, none, .mov (.tmp 31)⟩])
 (.seq (.seq (.ops [⟨some 32, none, .ld1 (.tmp 3)⟩])
 (.cond (.tmp 32)
 (.ops [⟨some 33, none, .ld1 (.tmp 4)⟩,
 ⟨some 34, none, .fad (.tmp 8) 2⟩,
 ⟨some 35, none, .ld1 (.tmp 34)⟩,
 ⟨some 36, none, .call (.func 51) [(.tmp 33), (.tmp 35)]⟩,
 ⟨some 11, none, .mov (.tmp 36)⟩])
 .skip))
 (.ops [⟨some 37, none, .ld1 (.tmp 5)⟩,
 ⟨some 38, none, .mov (.tmp 0)⟩,
 ⟨some 39, none, .mov (.tmp 11)⟩,
 ⟨some 40, none, .call (.tmp 37) [(.tmp 38), (.tmp 39)]⟩])))
 (.seq (.seq (.ops [⟨some 42, none, .bin .eql (.tmp 27) (.const (.int .i64 8))⟩,
 ⟨some 41, none, .mov (.tmp 42)⟩])
 (.cond (.tmp 41)
 .skip
 (.ops [⟨some 43, none, .bin .eql (.tmp 27) (.const (.int .i64 11))⟩,
 ⟨some 41, none, .mov (.tmp 43)⟩])))
 (.cond (.tmp 41)
 (.seq (.ops [⟨some 44, none, .fad (.tmp 8) 2⟩,
 ⟨some 45, none, .ld1 (.tmp 44)⟩,
 ⟨some 46, none, .mov (.const (.int .i64 0))⟩])
 (.block 1 (.loop (.seq (.ops [⟨some 47, none, .bin .lss (.tmp 46) (.tmp 45)⟩])
 (.seq (.cond (.tmp 47)
 .skip
 (.exit 1))
 (.seq (.block 2 (.seq (.ops [⟨some 48, none, .mov (.tmp 46)⟩,
 ⟨some 12, none, .mov (.tmp 48)⟩])
 (.seq (.ops [⟨some 49, none, .ld1 (.tmp 4)⟩,
 ⟨some 50, none, .nilck (.tmp 49)⟩,
 ⟨some 51, none, .fad (.tmp 50) 0⟩,
 ⟨some 52, none, .ld1 (.tmp 51)⟩,
 ⟨some 53, none, .bin .sub (.const (.int .i64 (-1))) (.tmp 52)⟩,
 ⟨some 13, none, .mov (.tmp 53)⟩])
 (.seq (.seq (.ops [⟨some 54, none, .ld1 (.tmp 3)⟩])
 (.cond (.tmp 54)
 (.draw [⟨some 55, none, .ld1 (.tmp 1)⟩,
 ⟨some 56, none, .mov (.tmp 9)⟩,
 ⟨some 57, none, .mov (.tmp 12)⟩,
 ⟨some 58, none, .iad 1 (.tmp 56) (.tmp 57)⟩,
 ⟨some 59, none, .ld1 (.tmp 58)⟩,
 ⟨some 60, none, .iad 6 (.tmp 55) (.tmp 59)⟩,
 ⟨some 61, none, .fad (.tmp 60) 2⟩,
 ⟨some 62, none, .ld1 (.tmp 61)⟩,
 ⟨some 13, none, .mov (.tmp 62)⟩] [(0, 1), (0, 2), (1, 2), (0, 3), (0, 4)])
 .skip))
 (.seq (.ops [⟨some 63, none, .mov (.tmp 10)⟩,
 ⟨some 64, none, .mov (.tmp 13)⟩,
 ⟨some 65, none, .lits [(.int .i64 0)] 1 [(0, 1, (.tmp 64))]⟩,
 ⟨some 66, none, .app 1 8 (.tmp 63) (.tmp 65)⟩,
 ⟨some 10, none, .mov (.tmp 66)⟩])
 (.ops [⟨some 67, none, .ld1 (.tmp 4)⟩,
 ⟨some 68, none, .mov (.tmp 13)⟩,
 ⟨some 69, none, .call (.func 52) [(.tmp 67), (.tmp 68)]⟩]))))))
 (.ops [⟨some 70, none, .bin .add (.tmp 46) (.const (.int .i64 1))⟩,
 ⟨some 46, none, .mov (.tmp 70)⟩])))))))
 .skip))))))
 (.seq (.seq (.ops [⟨some 71, none, .mov (.tmp 9)⟩,
 ⟨some 72, none, .lnl (.tmp 71)⟩,
 ⟨some 73, none, .mov (.const (.int .i64 0))⟩])
 (.block 3 (.loop (.seq (.ops [⟨some 74, none, .bin .lss (.tmp 73) (.tmp 72)⟩])
 (.seq (.cond (.tmp 74)
 .skip
 (.exit 3))
 (.seq (.block 4 (.seq (.ops [⟨some 75, none, .iad 1 (.tmp 71) (.tmp 73)⟩,
 ⟨some 76, none, .ld1 (.tmp 75)⟩,
 ⟨some 15, none, .mov (.tmp 76)⟩])
 (.ops [⟨some 77, none, .ld1 (.tmp 6)⟩,
 ⟨some 78, none, .mov (.tmp 15)⟩,
 ⟨some 79, none, .call (.tmp 77) [(.tmp 78)]⟩])))
 (.ops [⟨some 80, none, .bin .add (.tmp 73) (.const (.int .i64 1))⟩,
 ⟨some 73, none, .mov (.tmp 80)⟩])))))))
 (.seq (.ops [⟨some 81, none, .mov (.tmp 10)⟩,
 ⟨some 82, none, .call (.func 53) [(.tmp 81)]⟩])
 (.block 5 (.rangeF (.tmp 82) [83, 84]
 (.ops [⟨some 17, none, .mov (.tmp 84)⟩])
 (.block 6 (.ops [⟨some 85, none, .ld1 (.tmp 4)⟩,
 ⟨some 86, none, .mov (.tmp 17)⟩,
 ⟨some 87, none, .call (.func 54) [(.tmp 85), (.tmp 86)]⟩]))))))))))⟩
theorem ok50 : compF Tryz.prog Tryz.f50 = some c50 := by kernel_rfl
def c51 : CF := ⟨27, [.tmp 4],
 (.seq (.ops [⟨some 4, none, .mov (.const (.int .i64 0))⟩])
 (.seq (.ops [⟨some 6, none, .mov (.tmp 0)⟩,
 ⟨some 7, none, .nilck (.tmp 6)⟩,
 ⟨some 8, none, .fad (.tmp 7) 1⟩,
 ⟨some 9, none, .ld1 (.tmp 8)⟩,
 ⟨some 10, none, .mov (.tmp 1)⟩,
 ⟨some 11, none, .lkp (.int .i64) (.slice none 0 0) (.tmp 9) (.tmp 10) false⟩,
 ⟨some 5, none, .mov (.tmp 11)⟩])
 (.seq (.seq (.ops [⟨some 12, none, .mov (.tmp 5)⟩,
 ⟨some 13, none, .lnl (.tmp 12)⟩,
 ⟨some 14, none, .bin .eql (.tmp 13) (.const (.int .i64 0))⟩])
 (.cond (.tmp 14)
 (.seq (.ops [⟨some 4, none, .mov (.const (.int .i64 (-1)))⟩])
 .ret)
 .skip))
 (.seq (.draw [⟨some 15, none, .mov (.tmp 0)⟩,
 ⟨some 16, none, .nilck (.tmp 15)⟩,
 ⟨some 17, none, .fad (.tmp 16) 0⟩,
 ⟨some 18, none, .ld1 (.tmp 17)⟩,
 ⟨some 19, none, .bin .sub (.tmp 18) (.const (.int .i64 1))⟩,
 ⟨some 20, none, .mov (.tmp 5)⟩,
 ⟨some 21, none, .mov (.tmp 5)⟩,
 ⟨some 22, none, .lnl (.tmp 21)⟩,
 ⟨some 23, none, .bin .sub (.tmp 22) (.const (.int .i64 1))⟩,
 ⟨some 24, none, .iad 1 (.tmp 20) (.tmp 23)⟩,
 ⟨some 25, none, .ld1 (.tmp 24)⟩,
 ⟨some 26, none, .bin .sub (.tmp 19) (.tmp 25)⟩,
 ⟨some 4, none, .mov (.tmp 26)⟩] [(0, 5), (1, 5), (2, 5), (3, 5), (4, 5), (0, 6), (1, 6), (2, 6), (3, 6), (4, 6), (5, 6), (0, 7), (1, 7), (2, 7), (3, 7), (4, 7), (5, 7), (0, 8), (1, 8), (2, 8), (3, 8), (4, 8), (5, 8), (0, 9), (1, 9), (2, 9), (3, 9), (4, 9), (0, 10), (1, 10), (2, 10), (3, 10), (4, 10)])
 .ret))))⟩
theorem ok51 : compF Tryz.prog Tryz.f51 = some c51 := by kernel_rfl
def c52 : CF := ⟨28, [],
 (.seq (.draw [⟨some 4, none, .mov (.tmp 0)⟩,
 ⟨some 5, none, .nilck (.tmp 4)⟩,
 ⟨some 6, none, .fad (.tmp 5) 1⟩,
 ⟨some 7, none, .ld1 (.tmp 6)⟩,
 ⟨some 8, none, .mov (.tmp 1)⟩,
 ⟨some 9, none, .mov (.tmp 0)⟩,
 ⟨some 10, none, .nilck (.tmp 9)⟩,
 ⟨some 11, none, .fad (.tmp 10) 1⟩,
 ⟨some 12, none, .ld1 (.tmp 11)⟩,
 ⟨some 13, none, .mov (.tmp 1)⟩,
 ⟨some 14, none, .lkp (.int .i64) (.slice none 0 0) (.tmp 12) (.tmp 13) false⟩,
 ⟨some 15, none, .mov (.tmp 0)⟩,
 ⟨some 16, none, .nilck (.tmp 15)⟩,
 ⟨some 17, none, .fad (.tmp 16) 0⟩,
 ⟨some 18, none, .ld1 (.tmp 17)⟩,
 ⟨some 19, none, .lits [(.int .i64 0)] 1 [(0, 1, (.tmp 18))]⟩,
 ⟨some 20, none, .app 1 8 (.tmp 14) (.tmp 19)⟩,
 ⟨none, none, .mup (.int .i64) (.tmp 7) (.tmp 8) (.tmp 20)⟩] [(0, 4), (1, 4), (2, 4), (3, 4), (0, 5), (1, 5), (2, 5), (3, 5), (4, 5), (0, 6), (1, 6), (2, 6), (3, 6), (4, 6), (0, 7), (1, 7), (2, 7), (3, 7), (4, 7), (0, 8), (1, 8), (2, 8), (3, 8), (4, 8), (0, 9), (1, 9), (2, 9), (3, 9), (4, 9), (5, 9), (6, 9), (7, 9), (8, 9), (0, 10), (1, 10), (2, 10), (3, 10), (4, 10), (0, 11), (1, 11), (2, 11), (3, 11), (4, 11), (5, 11), (6, 11), (7, 11), (8, 11), (9, 11), (10, 11), (0, 12), (1, 12), (2, 12), (3, 12), (4, 12), (5, 12), (6, 12), (7, 12), (8, 12), (9, 12), (10, 12), (0, 13), (1, 13), (2, 13), (3, 13), (4, 13), (5, 13), (6, 13), (7, 13), (8, 13), (9, 13), (10, 13), (0, 14), (1, 14), (2, 14), (3, 14), (4, 14), (5, 14), (6, 14), (7, 14), (8, 14), (9, 14), (10, 14), (0, 15), (1, 15), (2, 15), (3, 15), (4, 15), (5, 15), (6, 15), (7, 15), (8, 15), (9, 15), (10, 15), (0, 16), (1, 16), (2, 16), (3, 16), (4, 16)])
 (.ops [⟨some 21, none, .mov (.tmp 0)⟩,
 ⟨some 22, none, .nilck (.tmp 21)⟩,
 ⟨some 23, none, .fad (.tmp 22) 0⟩,
 ⟨some 24, none, .ld1 (.tmp 23)⟩,
 ⟨some 25, none, .bin .add (.tmp 24) (.const (.int .i64 1))⟩,
 ⟨some 26, none, .nilck (.tmp 21)⟩,
 ⟨some 27, none, .fad (.tmp 26) 0⟩,
 ⟨none, none, .st 1 (.tmp 27) (.tmp 25)⟩]))⟩
theorem ok52 : compF Tryz.prog Tryz.f52 = some c52 := by kernel_rfl
def c53 : CF := ⟨4, [.tmp 2],
 (.seq (.ops [⟨some 1, none, .box (.tmp 0)⟩,
 ⟨some 2, none, .mov (.const .nilFunc)⟩])
 (.seq (.ops [⟨some 3, none, .fn 75 [] [(.tmp 1)]⟩,
 ⟨some 2, none, .mov (.tmp 3)⟩])
 .ret))⟩
theorem ok53 : compF Tryz.prog Tryz.f53 = some c53 := by kernel_rfl
def c54 : CF := ⟨31, [],
 (.seq (.draw [⟨some 4, none, .mov (.tmp 0)⟩,
 ⟨some 5, none, .nilck (.tmp 4)⟩,
 ⟨some 6, none, .fad (.tmp 5) 1⟩,
 ⟨some 7, none, .ld1 (.tmp 6)⟩,
 ⟨some 8, none, .mov (.tmp 1)⟩,
 ⟨some 9, none, .mov (.tmp 0)⟩,
 ⟨some 10, none, .nilck (.tmp 9)⟩,
 ⟨some 11, none, .fad (.tmp 10) 1⟩,
 ⟨some 12, none, .ld1 (.tmp 11)⟩,
 ⟨some 13, none, .mov (.tmp 1)⟩,
 ⟨some 14, none, .lkp (.int .i64) (.slice none 0 0) (.tmp 12) (.tmp 13) false⟩,
 ⟨some 15, none, .mov (.tmp 0)⟩,
 ⟨some 16, none, .nilck (.tmp 15)⟩,
 ⟨some 17, none, .fad (.tmp 16) 1⟩,
 ⟨some 18, none, .ld1 (.tmp 17)⟩,
 ⟨some 19, none, .mov (.tmp 1)⟩,
 ⟨some 20, none, .lkp (.int .i64) (.slice none 0 0) (.tmp 18) (.tmp 19) false⟩,
 ⟨some 21, none, .lnl (.tmp 20)⟩,
 ⟨some 22, none, .bin .sub (.tmp 21) (.const (.int .i64 1))⟩,
 ⟨some 23, none, .sl 1 (.tmp 14) none (some (.tmp 22)) none⟩,
 ⟨none, none, .mup (.int .i64) (.tmp 7) (.tmp 8) (.tmp 23)⟩] [(0, 4), (1, 4), (2, 4), (3, 4), (0, 5), (1, 5), (2, 5), (3, 5), (4, 5), (0, 6), (1, 6), (2, 6), (3, 6), (4, 6), (0, 7), (1, 7), (2, 7), (3, 7), (4, 7), (0, 8), (1, 8), (2, 8), (3, 8), (4, 8), (0, 9), (1, 9), (2, 9), (3, 9), (4, 9), (5, 9), (6, 9), (7, 9), (8, 9), (0, 10), (1, 10), (2, 10), (3, 10), (4, 10), (0, 11), (1, 11), (2, 11), (3, 11), (4, 11), (5, 11), (6, 11), (7, 11), (8, 11), (9, 11), (10, 11), (0, 12), (1, 12), (2, 12), (3, 12), (4, 12), (5, 12), (6, 12), (7, 12), (8, 12), (9, 12), (10, 12), (0, 13), (1, 13), (2, 13), (3, 13), (4, 13), (5, 13), (6, 13), (7, 13), (8, 13), (9, 13), (10, 13), (0, 14), (1, 14), (2, 14), (3, 14), (4, 14), (5, 14), (6, 14), (7, 14), (8, 14), (9, 14), (10, 14), (0, 15), (1, 15), (2, 15), (3, 15), (4, 15), (5, 15), (6, 15), (7, 15), (8, 15), (9, 15), (10, 15), (11, 15), (12, 15), (13, 15), (14, 15), (0, 16), (1, 16), (2, 16), (3, 16), (4, 16), (5, 16), (6, 16), (7, 16), (8, 16), (9, 16), (10, 16), (0, 17), (1, 17), (2, 17), (3, 17), (4, 17), (5, 17), (6, 17), (7, 17), (8, 17), (9, 17), (10, 17), (0, 18), (1, 18), (2, 18), (3, 18), (4, 18), (5, 18), (6, 18), (7, 18), (8, 18), (9, 18), (10, 18), (0, 19), (1, 19), (2, 19), (3, 19), (4, 19)])
 (.ops [⟨some 24, none, .mov (.tmp 0)⟩,
 ⟨some 25, none, .nilck (.tmp 24)⟩,
 ⟨some 26, none, .fad (.tmp 25) 0⟩,
 ⟨some 27, none, .ld1 (.tmp 26)⟩,
 ⟨some 28, none, .bin .sub (.tmp 27) (.const (.int .i64 1))⟩,
 ⟨some 29, none, .nilck (.tmp 24)⟩,
 ⟨some 30, none, .fad (.tmp 29) 0⟩,
 ⟨none, none, .st 1 (.tmp 30) (.tmp 28)⟩]))⟩
theorem ok54 : compF Tryz.prog Tryz.f54 = some c54 := by kernel_rfl
def c55 : CF := ⟨134, [],
 (.seq (.ops [⟨some 8, none, .mov (.const (.bool true))⟩])
 (.seq (.ops [⟨some 9, none, .mov (.const (.bool true))⟩])
 (.block 0 (.loop (.block 1 (.seq (.ops [⟨some 19, none, .mov (.tmp 2)⟩,
 ⟨some 20, none, .mov (.tmp 1)⟩,
 ⟨some 21, none, .bin .sub (.tmp 19) (.tmp 20)⟩,
 ⟨some 10, none, .mov (.tmp 21)⟩])
 (.seq (.seq (.ops [⟨some 22, none, .mov (.tmp 10)⟩,
 ⟨some 23, none, .bin .leq (.tmp 22) (.const (.int .i64 12))⟩])
 (.cond (.tmp 23)
 (.seq (.ops [⟨some 24, none, .mov (.tmp 0)⟩,
 ⟨some 25, none, .mov (.tmp 1)⟩,
 ⟨some 26, none, .mov (.tmp 2)⟩,
 ⟨some 27, none, .call (.func 76) [(.tmp 24), (.tmp 25), (.tmp 26)]⟩])
 .ret)
 .skip))
 (.seq (.seq (.ops [⟨some 28, none, .mov (.tmp 3)⟩,
 ⟨some 29, none, .bin .eql (.tmp 28) (.const (.int .i64 0))⟩])
 (.cond (.tmp 29)
 (.seq (.ops [⟨some 30, none, .mov (.tmp 0)⟩,
 ⟨some 31, none, .mov (.tmp 1)⟩,
 ⟨some 32, none, .mov (.tmp 2)⟩,
 ⟨some 33, none, .call (.func 77) [(.tmp 30), (.tmp 31), (.tmp 32)]⟩])
 .ret)
 .skip))
 (.seq (.seq (.ops [⟨some 34, none, .mov (.tmp 8)⟩,
 ⟨some 35, none, .un .not (.tmp 34)⟩])
 (.cond (.tmp 35)
 (.seq (.ops [⟨some 36, none, .mov (.tmp 0)⟩,
 ⟨some 37, none, .mov (.tmp 1)⟩,
 ⟨some 38, none, .mov (.tmp 2)⟩,
 ⟨some 39, none, .call (.func 78) [(.tmp 36), (.tmp 37), (.tmp 38)]⟩])
 (.ops [⟨some 40, none, .mov (.tmp 3)⟩,
 ⟨some 41, none, .bin .sub (.tmp 40) (.const (.int .i64 1))⟩,
 ⟨some 3, none, .mov (.tmp 41)⟩]))
 .skip))
 (.seq (.ops [⟨some 43, none, .mov (.tmp 0)⟩,
 ⟨some 44, none, .mov (.tmp 1)⟩,
 ⟨some 45, none, .mov (.tmp 2)⟩,
 ⟨some 46, none, .call (.func 79) [(.tmp 43), (.tmp 44), (.tmp 45)]⟩,
 ⟨some 42, none, .mov (.tmp 46)⟩,
 ⟨some 47, none, .ext (.tmp 42) 0⟩,
 ⟨some 48, none, .ext (.tmp 42) 1⟩,
 ⟨some 11, none, .mov (.tmp 47)⟩,
 ⟨some 12, none, .mov (.tmp 48)⟩])
 (.seq (.seq (.ops [⟨some 49, none, .mov (.tmp 12)⟩,
 ⟨some 50, none, .bin .eql (.tmp 49) (.const (.int .i64 2))⟩])
 (.cond (.tmp 50)
 (.seq (.ops [⟨some 51, none, .mov (.tmp 0)⟩,
 ⟨some 52, none, .mov (.tmp 1)⟩,
 ⟨some 53, none, .mov (.tmp 2)⟩,
 ⟨some 54, none, .call (.func 80) [(.tmp 51), (.tmp 52), (.tmp 53)]⟩])
 (.seq (.ops [⟨some 55, none, .mov (.tmp 2)⟩,
 ⟨some 56, none, .bin .sub (.tmp 55) (.const (.int .i64 1))⟩,
 ⟨some 57, none, .mov (.tmp 11)⟩,
 ⟨some 58, none, .mov (.tmp 1)⟩,
 ⟨some 59, none, .bin .sub (.tmp 57) (.tmp 58)⟩,
 ⟨some 60, none, .bin .sub (.tmp 56) (.tmp 59)⟩,
 ⟨some 11, none, .mov (.tmp 60)⟩])
 (.ops [⟨some 12, none, .mov (.const (.int .i64 1))⟩])))
 .skip))
 (.seq (.seq (.ops [⟨some 61, none, .mov (.tmp 8)⟩,
 ⟨some 62, none, .mov (.tmp 61)⟩,
 ⟨some 63, (some (62, true)), .mov (.tmp 9)⟩,
 ⟨some 64, none, .pick (.tmp 62) (.tmp 63) (.const (.bool false))⟩,
 ⟨some 65, none, .mov (.tmp 64)⟩,
 ⟨some 66, (some (65, true)), .mov (.tmp 12)⟩,
 ⟨some 67, (some (65, true)), .bin .eql (.tmp 66) (.const (.int .i64 1))⟩,
 ⟨some 68, none, .pick (.tmp 65) (.tmp 67) (.const (.bool false))⟩])
 (.cond (.tmp 68)
 (.seq (.ops [⟨some 69, none, .mov (.tmp 0)⟩,
 ⟨some 70, none, .mov (.tmp 1)⟩,
 ⟨some 71, none, .mov (.tmp 2)⟩,
 ⟨some 72, none, .call (.func 81) [(.tmp 69), (.tmp 70), (.tmp 71)]⟩])
 (.cond (.tmp 72)
 .ret
 .skip))
 .skip))
 (.seq (.seq (.draw [⟨some 73, none, .mov (.tmp 1)⟩,
 ⟨some 74, none, .bin .gtr (.tmp 73) (.const (.int .i64 0))⟩,
 ⟨some 75, none, .mov (.tmp 74)⟩,
 ⟨some 76, (some (75, true)), .mov (.tmp 0)⟩,
 ⟨some 77, (some (75, true)), .mov (.tmp 1)⟩,
 ⟨some 78, (some (75, true)), .bin .sub (.tmp 77) (.const (.int .i64 1))⟩,
 ⟨some 79, (some (75, true)), .iad 1 (.tmp 76) (.tmp 78)⟩,
 ⟨some 80, (some (75, true)), .ld1 (.tmp 79)⟩,
 ⟨some 81, (some (75, true)), .mov (.tmp 0)⟩,
 ⟨some 82, (some (75, true)), .mov (.tmp 11)⟩,
 ⟨some 83, (some (75, true)), .iad 1 (.tmp 81) (.tmp 82)⟩,
 ⟨some 84, (some (75, true)), .ld1 (.tmp 83)⟩,
 ⟨some 85, (some (75, true)), .call (.func 82) [(.tmp 80), (.tmp 84)]⟩,
 ⟨some 86, (some (75, true)), .un .not (.tmp 85)⟩,
 ⟨some 87, none, .pick (.tmp 75) (.tmp 86) (.const (.bool false))⟩] [(3, 4), (3, 5), (3, 8), (4, 8), (5, 8), (6, 8), (7, 8), (3, 9), (4, 9), (5, 9), (6, 9), (7, 9), (8, 9), (3, 10), (4, 10), (5, 10), (6, 10), (7, 10), (3, 11), (4, 11), (5, 11), (6, 11), (7, 11)])
 (.cond (.tmp 87)
 (.seq (.ops [⟨some 88, none, .mov (.tmp 0)⟩,
 ⟨some 89, none, .mov (.tmp 1)⟩,
 ⟨some 90, none, .mov (.tmp 2)⟩,
 ⟨some 91, none, .mov (.tmp 11)⟩,
 ⟨some 92, none, .call (.func 83) [(.tmp 88), (.tmp 89), (.tmp 90), (.tmp 91)]⟩,
 ⟨some 13, none, .mov (.tmp 92)⟩])
 (.seq (.ops [⟨some 93, none, .mov (.tmp 13)⟩,
 ⟨some 1, none, .mov (.tmp 93)⟩])
 (.exit 1)))
 .skip))
 (.seq (.ops [⟨some 95, none, .mov (.tmp 0)⟩,
 ⟨some 96, none, .mov (.tmp 1)⟩,
 ⟨some 97, none, .mov (.tmp 2)⟩,
 ⟨some 98, none, .mov (.tmp 11)⟩,
 ⟨some 99, none, .call (.func 84) [(.tmp 95), (.tmp 96), (.tmp 97), (.tmp 98)]⟩,
 ⟨some 94, none, .mov (.tmp 99)⟩,
 ⟨some 100, none, .ext (.tmp 94) 0⟩,
 ⟨some 101, none, .ext (.tmp 94) 1⟩,
 ⟨some 14, none, .mov (.tmp 100)⟩,
 ⟨some 15, none, .mov (.tmp 101)⟩])
 (.seq (.ops [⟨some 102, none, .mov (.tmp 15)⟩,
 ⟨some 9, none, .mov (.tmp 102)⟩])
 (.seq (.ops [⟨some 103, none, .mov (.tmp 14)⟩,
 ⟨some 104, none, .mov (.tmp 1)⟩,
 ⟨some 105, none, .bin .sub (.tmp 103) (.tmp 104)⟩,
 ⟨some 106, none, .mov (.tmp 2)⟩,
 ⟨some 107, none, .mov (.tmp 14)⟩,
 ⟨some 108, none, .bin .sub (.tmp 106) (.tmp 107)⟩,
 ⟨some 16, none, .mov (.tmp 105)⟩,
 ⟨some 17, none, .mov (.tmp 108)⟩])
 (.seq (.ops [⟨some 109, none, .mov (.tmp 10)⟩,
 ⟨some 110, none, .bin .quo (.tmp 109) (.const (.int .i64 8))⟩,
 ⟨some 18, none, .mov (.tmp 110)⟩])
 (.seq (.ops [⟨some 111, none, .mov (.tmp 16)⟩,
 ⟨some 112, none, .mov (.tmp 17)⟩,
 ⟨some 113, none, .bin .lss (.tmp 111) (.tmp 112)⟩])
 (.cond (.tmp 113)
 (.seq (.ops [⟨some 114, none, .mov (.tmp 16)⟩,
 ⟨some 115, none, .mov (.tmp 18)⟩,
 ⟨some 116, none, .bin .geq (.tmp 114) (.tmp 115)⟩,
 ⟨some 8, none, .mov (.tmp 116)⟩])
 (.seq (.ops [⟨some 117, none, .mov (.tmp 0)⟩,
 ⟨some 118, none, .mov (.tmp 1)⟩,
 ⟨some 119, none, .mov (.tmp 14)⟩,
 ⟨some 120, none, .mov (.tmp 3)⟩,
 ⟨some 121, none, .call (.func 55) [(.tmp 117), (.tmp 118), (.tmp 119), (.tmp 120)]⟩])
 (.ops [⟨some 122, none, .mov (.tmp 14)⟩,
 ⟨some 123, none, .bin .add (.tmp 122) (.const (.int .i64 1))⟩,
 ⟨some 1, none, .mov (.tmp 123)⟩])))
 (.seq (.ops [⟨some 124, none, .mov (.tmp 17)⟩,
 ⟨some 125, none, .mov (.tmp 18)⟩,
 ⟨some 126, none, .bin .geq (.tmp 124) (.tmp 125)⟩,
 ⟨some 8, none, .mov (.tmp 126)⟩])
 (.seq (.ops [⟨some 127, none, .mov (.tmp 0)⟩,
 ⟨some 128, none, .mov (.tmp 14)⟩,
 ⟨some 129, none, .bin .add (.tmp 128) (.const (.int .i64 1))⟩,
 ⟨some 130, none, .mov (.tmp 2)⟩,
 ⟨some 131, none, .mov (.tmp 3)⟩,
 ⟨some 132, none, .call (.func 55) [(.tmp 127), (.tmp 129), (.tmp 130), (.tmp 131)]⟩])
 (.ops [⟨some 133, none, .mov (.tmp 14)⟩,
 ⟨some 2, none, .mov (.tmp 133)⟩]))))))))))))))))))))))⟩
theorem ok55 : compF Tryz.prog Tryz.f55 = some c55 := by kernel_rfl
def c56 : CF := ⟨8, [.tmp 2],
 (.seq (.ops [⟨some 2, none, .mov (.const (.int .i64 0))⟩])
 (.seq (.cond (.const (.bool false))
 (.seq (.ops [⟨some 3, none, .mov (.tmp 0)⟩,
 ⟨some 4, none, .cvi .u32 (.tmp 3)⟩,
 ⟨some 5, none, .call (.func 85) [(.tmp 4)]⟩,
 ⟨some 2, none, .mov (.tmp 5)⟩])
 .ret)
 .skip)
 (.seq (.ops [⟨some 6, none, .mov (.tmp 0)⟩,
 ⟨some 7, none, .call (.func 86) [(.tmp 6)]⟩,
 ⟨some 2, none, .mov (.tmp 7)⟩])
 .ret)))⟩
theorem ok56 : compF Tryz.prog Tryz.f56 = some c56 := by kernel_rfl
def c57 : CF := ⟨76, [],
 (.seq (.ops [⟨some 10, none, .mov (.tmp 0)⟩,
 ⟨some 11, none, .mov (.tmp 1)⟩,
 ⟨some 12, none, .call (.func 37) [(.tmp 10), (.tmp 11)]⟩,
 ⟨some 6, none, .mov (.tmp 12)⟩])
 (.seq (.draw [⟨some 13, none, .mov (.tmp 0)⟩,
 ⟨some 14, none, .mov (.tmp 1)⟩,
 ⟨some 15, none, .call (.func 64) [(.tmp 13), (.tmp 14), (.const (.int .i64 9)), (.const (.int .i32 1))]⟩,
 ⟨some 16, none, .mov (.tmp 15)⟩,
 ⟨some 17, (some (16, true)), .mov (.tmp 0)⟩,
 ⟨some 18, (some (16, true)), .mov (.tmp 6)⟩,
 ⟨some 19, (some (16, true)), .iad 1 (.tmp 18) (.const (.int .i64 0))⟩,
 ⟨some 20, (some (16, true)), .ld1 (.tmp 19)⟩,
 ⟨some 21, (some (16, true)), .call (.func 64) [(.tmp 17), (.tmp 20), (.const (.int .i64 8)), (.const (.int .i32 2))]⟩,
 ⟨some 22, none, .pick (.tmp 16) (.tmp 21) (.const (.bool false))⟩,
 ⟨some 23, none, .mov (.tmp 22)⟩,
 ⟨some 24, (some (23, true)), .mov (.tmp 0)⟩,
 ⟨some 25, (some (23, true)), .nilck (.tmp 24)⟩,
 ⟨some 26, (some (23, true)), .fad (.tmp 25) 0⟩,
 ⟨some 27, (some (23, true)), .ld1 (.tmp 26)⟩,
 ⟨some 28, (some (23, true)), .mov (.tmp 6)⟩,
 ⟨some 29, (some (23, true)), .iad 1 (.tmp 28) (.const (.int .i64 0))⟩,
 ⟨some 30, (some (23, true)), .ld1 (.tmp 29)⟩,
 ⟨some 31, (some (23, true)), .iad 6 (.tmp 27) (.tmp 30)⟩,
 ⟨some 32, (some (23, true)), .fad (.tmp 31) 2⟩,
 ⟨some 33, (some (23, true)), .ld1 (.tmp 32)⟩,
 ⟨some 34, (some (23, true)), .mov (.tmp 6)⟩,
 ⟨some 35, (some (23, true)), .lnl (.tmp 34)⟩,
 ⟨some 36, (some (23, true)), .bin .sub (.tmp 35) (.const (.int .i64 1))⟩,
 ⟨some 37, (some (23, true)), .bin .eql (.tmp 33) (.tmp 36)⟩,
 ⟨some 38, none, .pick (.tmp 23) (.tmp 37) (.const (.bool false))⟩,
 ⟨some 39, none, .call (.func 36) [(.tmp 38)]⟩] [(0, 1), (4, 5), (4, 6), (4, 7), (11, 15), (12, 15), (13, 15), (14, 15), (11, 16), (12, 16), (13, 16), (14, 16), (11, 17), (12, 17), (13, 17), (14, 17), (11, 21), (12, 21), (13, 21), (14, 21), (15, 21), (16, 21), (17, 21), (18, 21), (19, 21), (20, 21), (11, 22), (12, 22), (13, 22), (14, 22), (15, 22), (16, 22), (17, 22), (18, 22), (19, 22), (20, 22), (11, 23), (12, 23), (13, 23), (14, 23), (15, 23), (16, 23), (17, 23), (18, 23), (19, 23), (20, 23)])
 (.seq (.ops [⟨some 40, none, .mov (.tmp 0)⟩,
 ⟨some 41, none, .mov (.tmp 6)⟩,
 ⟨some 42, none, .lnl (.tmp 41)⟩,
 ⟨some 43, none, .bin .mul (.const (.int .i64 2)) (.tmp 42)⟩,
 ⟨some 44, none, .bin .sub (.tmp 43) (.const (.int .i64 1))⟩,
 ⟨some 45, none, .agg [(.int .i64 0), (.int .i64 0), (.int .i64 0), (.string ⟨#[]⟩), (.int .i64 0), (.int .i64 0), (.int .i64 0)] [(0, 1, (.const (.int .i64 12))), (1, 1, (.tmp 44))]⟩,
 ⟨some 46, none, .mov (.tmp 1)⟩,
 ⟨some 47, none, .call (.func 40) [(.tmp 40), (.tmp 45), (.tmp 46)]⟩])
 (.seq (.ops [⟨some 48, none, .mov (.tmp 2)⟩,
 ⟨some 7, none, .mov (.tmp 48)⟩])
 (.seq (.seq (.ops [⟨some 49, none, .mov (.tmp 6)⟩,
 ⟨some 50, none, .sl 1 (.tmp 49) (some (.const (.int .i64 1))) none none⟩,
 ⟨some 51, none, .lnl (.tmp 50)⟩,
 ⟨some 52, none, .mov (.const (.int .i64 0))⟩])
 (.block 0 (.loop (.seq (.ops [⟨some 53, none, .bin .lss (.tmp 52) (.tmp 51)⟩])
 (.seq (.cond (.tmp 53)
 .skip
 (.exit 0))
 (.seq (.block 1 (.seq (.ops [⟨some 54, none, .iad 1 (.tmp 50) (.tmp 52)⟩,
 ⟨some 55, none, .ld1 (.tmp 54)⟩,
 ⟨some 9, none, .mov (.tmp 55)⟩])
 (.seq (.ops [⟨some 56, none, .mov (.tmp 7)⟩,
 ⟨some 57, none, .mov (.tmp 0)⟩,
 ⟨some 58, none, .mov (.tmp 6)⟩,
 ⟨some 59, none, .iad 1 (.tmp 58) (.const (.int .i64 0))⟩,
 ⟨some 60, none, .ld1 (.tmp 59)⟩,
 ⟨some 61, none, .call (.func 66) [(.tmp 57), (.tmp 60)]⟩,
 ⟨some 62, none, .lits [(.int .i64 0)] 1 [(0, 1, (.tmp 61))]⟩,
 ⟨some 63, none, .call (.func 65) [(.tmp 56), (.tmp 62)]⟩,
 ⟨some 7, none, .mov (.tmp 63)⟩])
 (.ops [⟨some 64, none, .mov (.tmp 0)⟩,
 ⟨some 65, none, .mov (.tmp 9)⟩,
 ⟨some 66, none, .mov (.tmp 2)⟩,
 ⟨some 67, none, .call (.func 24) [(.tmp 64), (.tmp 65), (.tmp 66)]⟩]))))
 (.ops [⟨some 68, none, .bin .add (.tmp 52) (.const (.int .i64 1))⟩,
 ⟨some 52, none, .mov (.tmp 68)⟩])))))))
 (.ops [⟨some 69, none, .mov (.tmp 0)⟩,
 ⟨some 70, none, .mov (.tmp 6)⟩,
 ⟨some 71, none, .iad 1 (.tmp 70) (.const (.int .i64 0))⟩,
 ⟨some 72, none, .ld1 (.tmp 71)⟩,
 ⟨some 73, none, .bin .add (.tmp 72) (.const (.int .i64 1))⟩,
 ⟨some 74, none, .mov (.tmp 7)⟩,
 ⟨some 75, none, .call (.func 24) [(.tmp 69), (.tmp 73), (.tmp 74)]⟩]))))))⟩
theorem ok57 : compF Tryz.prog Tryz.f57 = some c57 := by kernel_rfl
def c58 : CF := ⟨92, [],
 (.seq (.ops [⟨some 9, none, .mov (.tmp 0)⟩,
 ⟨some 10, none, .agg [(.int .i64 0), (.int .i64 0), (.int .i64 0), (.string ⟨#[]⟩), (.int .i64 0), (.int .i64 0), (.int .i64 0)] [(0, 1, (.const (.int .i64 13))), (1, 1, (.const (.int .i64 1)))]⟩,
 ⟨some 11, none, .mov (.tmp 1)⟩,
 ⟨some 12, none, .call (.func 40) [(.tmp 9), (.tmp 10), (.tmp 11)]⟩,
 ⟨some 6, none, .mov (.tmp 12)⟩])
 (.seq (.block 0 (.loop (.seq (.seq (.ops [⟨some 13, none, .mov (.tmp 0)⟩,
 ⟨some 14, none, .nilck (.tmp 13)⟩,
 ⟨some 15, none, .fad (.tmp 14) 0⟩,
 ⟨some 16, none, .ld1 (.tmp 15)⟩,
 ⟨some 17, none, .mov (.tmp 1)⟩,
 ⟨some 18, none, .iad 6 (.tmp 16) (.tmp 17)⟩,
 ⟨some 19, none, .fad (.tmp 18) 4⟩,
 ⟨some 20, none, .ld1 (.tmp 19)⟩,
 ⟨some 21, none, .bin .eql (.tmp 20) (.const (.int .i32 3))⟩])
 (.cond (.tmp 21)
 .skip
 (.exit 0)))
 (.block 1 (.seq (.ops [⟨some 22, none, .mov (.tmp 1)⟩,
 ⟨some 23, none, .bin .add (.tmp 22) (.const (.int .i64 1))⟩,
 ⟨some 7, none, .mov (.tmp 23)⟩])
 (.seq (.ops [⟨some 24, none, .mov (.tmp 0)⟩,
 ⟨some 25, none, .mov (.tmp 1)⟩,
 ⟨some 26, none, .call (.func 64) [(.tmp 24), (.tmp 25), (.const (.int .i64 9)), (.const (.int .i32 3))]⟩,
 ⟨some 27, none, .mov (.tmp 26)⟩,
 ⟨some 28, (some (27, true)), .mov (.tmp 0)⟩,
 ⟨some 29, (some (27, true)), .nilck (.tmp 28)⟩,
 ⟨some 30, (some (27, true)), .fad (.tmp 29) 0⟩,
 ⟨some 31, (some (27, true)), .ld1 (.tmp 30)⟩,
 ⟨some 32, (some (27, true)), .mov (.tmp 1)⟩,
 ⟨some 33, (some (27, true)), .iad 6 (.tmp 31) (.tmp 32)⟩,
 ⟨some 34, (some (27, true)), .fad (.tmp 33) 1⟩,
 ⟨some 35, (some (27, true)), .ld1 (.tmp 34)⟩,
 ⟨some 36, (some (27, true)), .bin .eql (.tmp 35) (.const (.int .i64 2))⟩,
 ⟨some 37, none, .pick (.tmp 27) (.tmp 36) (.const (.bool false))⟩,
 ⟨some 38, none, .mov (.tmp 37)⟩,
 ⟨some 39, (some (38, true)), .mov (.tmp 0)⟩,
 ⟨some 40, (some (38, true)), .mov (.tmp 7)⟩,
 ⟨some 41, (some (38, true)), .call (.func 64) [(.tmp 39), (.tmp 40), (.const (.int .i64 8)), (.const (.int .i32 4))]⟩,
 ⟨some 42, none, .pick (.tmp 38) (.tmp 41) (.const (.bool false))⟩,
 ⟨some 43, none, .mov (.tmp 42)⟩,
 ⟨some 44, (some (43, true)), .mov (.tmp 0)⟩,
 ⟨some 45, (some (43, true)), .nilck (.tmp 44)⟩,
 ⟨some 46, (some (43, true)), .fad (.tmp 45) 0⟩,
 ⟨some 47, (some (43, true)), .ld1 (.tmp 46)⟩,
 ⟨some 48, (some (43, true)), .mov (.tmp 7)⟩,
 ⟨some 49, (some (43, true)), .iad 6 (.tmp 47) (.tmp 48)⟩,
 ⟨some 50, (some (43, true)), .fad (.tmp 49) 2⟩,
 ⟨some 51, (some (43, true)), .ld1 (.tmp 50)⟩,
 ⟨some 52, (some (43, true)), .bin .eql (.tmp 51) (.const (.int .i64 1))⟩,
 ⟨some 53, none, .pick (.tmp 43) (.tmp 52) (.const (.bool false))⟩,
 ⟨some 54, none, .call (.func 36) [(.tmp 53)]⟩])
 (.seq (.ops [⟨some 55, none, .mov (.tmp 0)⟩,
 ⟨some 56, none, .mov (.tmp 7)⟩,
 ⟨some 57, none, .call (.func 66) [(.tmp 55), (.tmp 56)]⟩,
 ⟨some 8, none, .mov (.tmp 57)⟩])
 (.seq (.ops [⟨some 58, none, .mov (.tmp 0)⟩,
 ⟨some 59, none, .mov (.tmp 0)⟩,
 ⟨some 60, none, .nilck (.tmp 59)⟩,
 ⟨some 61, none, .fad (.tmp 60) 1⟩,
 ⟨some 62, none, .ld1 (.tmp 61)⟩,
 ⟨some 63, none, .mov (.tmp 7)⟩,
 ⟨some 64, none, .iad 1 (.tmp 62) (.tmp 63)⟩,
 ⟨some 65, none, .ld1 (.tmp 64)⟩,
 ⟨some 66, none, .mov (.tmp 2)⟩,
 ⟨some 67, none, .call (.func 24) [(.tmp 58), (.tmp 65), (.tmp 66)]⟩])
 (.seq (.ops [⟨some 68, none, .mov (.tmp 2)⟩,
 ⟨some 69, none, .mov (.tmp 8)⟩,
 ⟨some 70, none, .lits [(.int .i64 0)] 1 [(0, 1, (.tmp 69))]⟩,
 ⟨some 71, none, .call (.func 65) [(.tmp 68), (.tmp 70)]⟩,
 ⟨some 2, none, .mov (.tmp 71)⟩])
 (.seq (.ops [⟨some 72, none, .mov (.tmp 0)⟩,
 ⟨some 73, none, .nilck (.tmp 72)⟩,
 ⟨some 74, none, .fad (.tmp 73) 3⟩,
 ⟨some 75, none, .fad (.tmp 74) 0⟩,
 ⟨some 76, none, .ld1 (.tmp 75)⟩,
 ⟨some 77, none, .mov (.tmp 6)⟩,
 ⟨some 78, none, .iad 7 (.tmp 76) (.tmp 77)⟩,
 ⟨some 79, none, .fad (.tmp 78) 1⟩,
 ⟨some 80, none, .ld1 (.tmp 79)⟩,
 ⟨some 81, none, .bin .add (.tmp 80) (.const (.int .i64 2))⟩,
 ⟨some 82, none, .iad 7 (.tmp 76) (.tmp 77)⟩,
 ⟨some 83, none, .fad (.tmp 82) 1⟩,
 ⟨none, none, .st 1 (.tmp 83) (.tmp 81)⟩])
 (.ops [⟨some 84, none, .mov (.tmp 7)⟩,
 ⟨some 85, none, .bin .add (.tmp 84) (.const (.int .i64 1))⟩,
 ⟨some 1, none, .mov (.tmp 85)⟩])))))))))))
 (.ops [⟨some 86, none, .mov (.tmp 0)⟩,
 ⟨some 87, none, .mov (.tmp 0)⟩,
 ⟨some 88, none, .mov (.tmp 1)⟩,
 ⟨some 89, none, .call (.func 87) [(.tmp 87), (.tmp 88), (.const (.int .i32 5))]⟩,
 ⟨some 90, none, .mov (.tmp 2)⟩,
 ⟨some 91, none, .call (.func 24) [(.tmp 86), (.tmp 89), (.tmp 90)]⟩])))⟩
theorem ok58 : compF Tryz.prog Tryz.f58 = some c58 := by kernel_rfl
def c59 : CF := ⟨119, [],
 (.seq (.ops [⟨some 16, none, .mov (.tmp 0)⟩,
 ⟨some 17, none, .mov (.tmp 1)⟩,
 ⟨some 18, none, .call (.func 64) [(.tmp 16), (.tmp 17), (.const (.int .i64 11)), (.const (.int .i32 7))]⟩,
 ⟨some 19, none, .call (.func 36) [(.tmp 18)]⟩])
 (.seq (.ops [⟨some 20, none, .mov (.tmp 0)⟩,
 ⟨some 21, none, .mov (.tmp 1)⟩,
 ⟨some 22, none, .call (.func 37) [(.tmp 20), (.tmp 21)]⟩,
 ⟨some 6, none, .mov (.tmp 22)⟩])
 (.seq (.ops [⟨some 23, none, .mov (.tmp 6)⟩,
 ⟨some 24, none, .mov (.tmp 6)⟩,
 ⟨some 25, none, .lnl (.tmp 24)⟩,
 ⟨some 26, none, .bin .sub (.tmp 25) (.const (.int .i64 1))⟩,
 ⟨some 27, none, .iad 1 (.tmp 23) (.tmp 26)⟩,
 ⟨some 28, none, .ld1 (.tmp 27)⟩,
 ⟨some 7, none, .mov (.tmp 28)⟩])
 (.seq (.ops [⟨some 29, none, .mov (.tmp 6)⟩,
 ⟨some 30, none, .mov (.tmp 6)⟩,
 ⟨some 31, none, .lnl (.tmp 30)⟩,
 ⟨some 32, none, .bin .sub (.tmp 31) (.const (.int .i64 1))⟩,
 ⟨some 33, none, .sl 1 (.tmp 29) none (some (.tmp 32)) none⟩,
 ⟨some 6, none, .mov (.tmp 33)⟩])
 (.seq (.ops [⟨some 34, none, .mov (.tmp 0)⟩,
 ⟨some 35, none, .mov (.tmp 6)⟩,
 ⟨some 36, none, .lnl (.tmp 35)⟩,
 ⟨some 37, none, .bin .mul (.const (.int .i64 2)) (.tmp 36)⟩,
 ⟨some 38, none, .bin .add (.tmp 37) (.const (.int .i64 1))⟩,
 ⟨some 39, none, .agg [(.int .i64 0), (.int .i64 0), (.int .i64 0), (.string ⟨#[]⟩), (.int .i64 0), (.int .i64 0), (.int .i64 0)] [(0, 1, (.const (.int .i64 14))), (1, 1, (.tmp 38))]⟩,
 ⟨some 40, none, .mov (.tmp 1)⟩,
 ⟨some 41, none, .call (.func 40) [(.tmp 34), (.tmp 39), (.tmp 40)]⟩])
 (.seq (.ops [⟨some 42, none, .mov (.tmp 2)⟩,
 ⟨some 8, none, .mov (.tmp 42)⟩])
 (.seq (.ops [⟨some 43, none, .mov (.tmp 0)⟩,
 ⟨some 44, none, .nilck (.tmp 43)⟩,
 ⟨some 45, none, .fad (.tmp 44) 5⟩,
 ⟨some 46, none, .ld1 (.tmp 45)⟩,
 ⟨some 9, none, .mov (.tmp 46)⟩])
 (.seq (.seq (.ops [⟨some 47, none, .mov (.tmp 6)⟩,
 ⟨some 48, none, .lnl (.tmp 47)⟩,
 ⟨some 49, none, .mov (.const (.int .i64 0))⟩])
 (.block 0 (.loop (.seq (.ops [⟨some 50, none, .bin .lss (.tmp 49) (.tmp 48)⟩])
 (.seq (.cond (.tmp 50)
 .skip
 (.exit 0))
 (.seq (.block 1 (.seq (.ops [⟨some 51, none, .iad 1 (.tmp 47) (.tmp 49)⟩,
 ⟨some 52, none, .ld1 (.tmp 51)⟩,
 ⟨some 11, none, .mov (.tmp 52)⟩])
 (.seq (.ops [⟨some 53, none, .mov (.tmp 8)⟩,
 ⟨some 54, none, .mov (.tmp 9)⟩,
 ⟨some 55, none, .lits [(.int .i64 0)] 1 [(0, 1, (.tmp 54))]⟩,
 ⟨some 56, none, .call (.func 65) [(.tmp 53), (.tmp 55)]⟩,
 ⟨some 8, none, .mov (.tmp 56)⟩])
 (.seq (.ops [⟨some 57, none, .mov (.tmp 9)⟩,
 ⟨some 58, none, .bin .add (.tmp 57) (.const (.int .i64 1))⟩,
 ⟨some 9, none, .mov (.tmp 58)⟩])
 (.seq (.draw [⟨some 59, none, .mov (.tmp 0)⟩,
 ⟨some 60, none, .nilck (.tmp 59)⟩,
 ⟨some 61, none, .fad (.tmp 60) 0⟩,
 ⟨some 62, none, .ld1 (.tmp 61)⟩,
 ⟨some 63, none, .mov (.tmp 11)⟩,
 ⟨some 64, none, .mov (.tmp 0)⟩,
 ⟨some 65, none, .nilck (.tmp 64)⟩,
 ⟨some 66, none, .fad (.tmp 65) 1⟩,
 ⟨some 67, none, .ld1 (.tmp 66)⟩,
 ⟨some 68, none, .mov (.tmp 11)⟩,
 ⟨some 69, none, .iad 1 (.tmp 67) (.tmp 68)⟩,
 ⟨some 70, none, .ld1 (.tmp 69)⟩,
 ⟨some 71, none, .sl 6 (.tmp 62) (some (.tmp 63)) (some (.tmp 70)) none⟩,
 ⟨some 72, none, .lnl (.tmp 71)⟩,
 ⟨some 73, none, .mov (.const (.int .i64 0))⟩] [(0, 4), (1, 4), (2, 4), (3, 4), (0, 5), (1, 5), (2, 5), (3, 5), (4, 5), (0, 6), (1, 6), (2, 6), (3, 6), (4, 6), (0, 7), (1, 7), (2, 7), (3, 7), (4, 7), (0, 8), (1, 8), (2, 8), (3, 8), (4, 8), (0, 9), (1, 9), (2, 9), (3, 9), (4, 9), (5, 9), (6, 9), (7, 9), (8, 9), (0, 10), (1, 10), (2, 10), (3, 10), (4, 10), (0, 11), (1, 11), (2, 11), (3, 11), (4, 11), (0, 14), (1, 14), (2, 14), (3, 14), (4, 14), (5, 14), (6, 14), (7, 14), (8, 14), (9, 14), (10, 14), (11, 14), (12, 14), (13, 14)])
 (.block 2 (.loop (.seq (.ops [⟨some 74, none, .bin .lss (.tmp 73) (.tmp 72)⟩])
 (.seq (.cond (.tmp 74)
 .skip
 (.exit 2))
 (.seq (.block 3 (.seq (.ops [⟨some 75, none, .iad 6 (.tmp 71) (.tmp 73)⟩,
 ⟨some 76, none, .ld 6 (.tmp 75)⟩,
 ⟨some 13, none, .newz [(.int .i64 0), (.int .i64 0), (.int .i64 0), (.string ⟨#[]⟩), (.int .i32 0), (.int .i32 0)]⟩,
 ⟨none, none, .st 6 (.tmp 13) (.tmp 76)⟩])
 (.seq (.ops [⟨some 77, none, .fad (.tmp 13) 4⟩,
 ⟨some 78, none, .ld1 (.tmp 77)⟩,
 ⟨some 79, none, .bin .neq (.tmp 78) (.const (.int .i32 17))⟩,
 ⟨some 80, none, .mov (.tmp 79)⟩,
 ⟨some 81, (some (80, true)), .fad (.tmp 13) 4⟩,
 ⟨some 82, (some (80, true)), .ld1 (.tmp 81)⟩,
 ⟨some 83, (some (80, true)), .bin .neq (.tmp 82) (.const (.int .i32 24))⟩,
 ⟨some 84, none, .pick (.tmp 80) (.tmp 83) (.const (.bool false))⟩,
 ⟨some 85, none, .mov (.tmp 84)⟩,
 ⟨some 86, (some (85, true)), .fad (.tmp 13) 0⟩,
 ⟨some 87, (some (85, true)), .ld1 (.tmp 86)⟩,
 ⟨some 88, (some (85, true)), .bin .eql (.tmp 87) (.const (.int .i64 8))⟩,
 ⟨some 89, (some (85, true)), .mov (.tmp 88)⟩,
 ⟨some 90, (some (89, false)), .fad (.tmp 13) 0⟩,
 ⟨some 91, (some (89, false)), .ld1 (.tmp 90)⟩,
 ⟨some 92, (some (89, false)), .bin .eql (.tmp 91) (.const (.int .i64 11))⟩,
 ⟨some 93, (some (85, true)), .pick (.tmp 89) (.const (.bool true)) (.tmp 92)⟩,
 ⟨some 94, none, .pick (.tmp 85) (.tmp 93) (.const (.bool false))⟩])
 (.cond (.tmp 94)
 (.ops [⟨some 95, none, .mov (.tmp 9)⟩,
 ⟨some 96, none, .fad (.tmp 13) 2⟩,
 ⟨some 97, none, .ld1 (.tmp 96)⟩,
 ⟨some 98, none, .bin .add (.tmp 95) (.tmp 97)⟩,
 ⟨some 9, none, .mov (.tmp 98)⟩])
 .skip))))
 (.ops [⟨some 99, none, .bin .add (.tmp 73) (.const (.int .i64 1))⟩,
 ⟨some 73, none, .mov (.tmp 99)⟩])))))))))))
 (.ops [⟨some 100, none, .bin .add (.tmp 49) (.const (.int .i64 1))⟩,
 ⟨some 49, none, .mov (.tmp 100)⟩])))))))
 (.seq (.seq (.ops [⟨some 101, none, .mov (.tmp 6)⟩,
 ⟨some 102, none, .lnl (.tmp 101)⟩,
 ⟨some 103, none, .mov (.const (.int .i64 0))⟩])
 (.block 4 (.loop (.seq (.ops [⟨some 104, none, .bin .lss (.tmp 103) (.tmp 102)⟩])
 (.seq (.cond (.tmp 104)
 .skip
 (.exit 4))
 (.seq (.block 5 (.seq (.ops [⟨some 105, none, .iad 1 (.tmp 101) (.tmp 103)⟩,
 ⟨some 106, none, .ld1 (.tmp 105)⟩,
 ⟨some 15, none, .mov (.tmp 106)⟩])
 (.seq (.ops [⟨some 107, none, .mov (.tmp 0)⟩,
 ⟨some 108, none, .mov (.tmp 1)⟩,
 ⟨some 109, none, .call (.func 66) [(.tmp 107), (.tmp 108)]⟩])
 (.ops [⟨some 110, none, .mov (.tmp 0)⟩,
 ⟨some 111, none, .mov (.tmp 15)⟩,
 ⟨some 112, none, .mov (.tmp 8)⟩,
 ⟨some 113, none, .call (.func 41) [(.tmp 110), (.tmp 111), (.tmp 112)]⟩]))))
 (.ops [⟨some 114, none, .bin .add (.tmp 103) (.const (.int .i64 1))⟩,
 ⟨some 103, none, .mov (.tmp 114)⟩])))))))
 (.ops [⟨some 115, none, .mov (.tmp 0)⟩,
 ⟨some 116, none, .mov (.tmp 7)⟩,
 ⟨some 117, none, .mov (.tmp 8)⟩,
 ⟨some 118, none, .call (.func 24) [(.tmp 115), (.tmp 116), (.tmp 117)]⟩]))))))))))⟩
theorem ok59 : compF Tryz.prog Tryz.f59 = some c59 := by kernel_rfl
def c60 : CF := ⟨18, [],
 (.seq (.ops [⟨some 7, none, .mov (.tmp 0)⟩,
 ⟨some 8, none, .mov (.tmp 1)⟩,
 ⟨some 9, none, .call (.func 87) [(.tmp 7), (.tmp 8), (.const (.int .i32 26))]⟩,
 ⟨some 6, none, .mov (.tmp 9)⟩])
 (.seq (.ops [⟨some 10, none, .mov (.tmp 0)⟩,
 ⟨some 11, none, .agg [(.int .i64 0), (.int .i64 0), (.int .i64 0), (.string ⟨#[]⟩), (.int .i64 0), (.int .i64 0), (.int .i64 0)] [(0, 1, (.const (.int .i64 14))), (1, 1, (.const (.int .i64 1)))]⟩,
 ⟨some 12, none, .mov (.tmp 1)⟩,
 ⟨some 13, none, .call (.func 40) [(.tmp 10), (.tmp 11), (.tmp 12)]⟩])
 (.ops [⟨some 14, none, .mov (.tmp 0)⟩,
 ⟨some 15, none, .mov (.tmp 6)⟩,
 ⟨some 16, none, .mov (.tmp 2)⟩,
 ⟨some 17, none, .call (.func 24) [(.tmp 14), (.tmp 15), (.tmp 16)]⟩])))⟩
theorem ok60 : compF Tryz.prog Tryz.f60 = some c60 := by kernel_rfl
def c61 : CF := ⟨61, [],
 (.seq (.ops [⟨some 9, none, .mov (.tmp 0)⟩,
 ⟨some 10, none, .agg [(.int .i64 0), (.int .i64 0), (.int .i64 0), (.string ⟨#[]⟩), (.int .i64 0), (.int .i64 0), (.int .i64 0)] [(0, 1, (.const (.int .i64 15))), (1, 1, (.const (.int .i64 1)))]⟩,
 ⟨some 11, none, .mov (.tmp 1)⟩,
 ⟨some 12, none, .call (.func 40) [(.tmp 9), (.tmp 10), (.tmp 11)]⟩,
 ⟨some 6, none, .mov (.tmp 12)⟩])
 (.seq (.block 0 (.loop (.seq (.seq (.ops [⟨some 13, none, .mov (.tmp 0)⟩,
 ⟨some 14, none, .mov (.tmp 1)⟩,
 ⟨some 15, none, .call (.func 64) [(.tmp 13), (.tmp 14), (.const (.int .i64 10)), (.const (.int .i32 8))]⟩])
 (.cond (.tmp 15)
 .skip
 (.exit 0)))
 (.block 1 (.seq (.ops [⟨some 16, none, .mov (.tmp 0)⟩,
 ⟨some 17, none, .mov (.tmp 1)⟩,
 ⟨some 18, none, .call (.func 37) [(.tmp 16), (.tmp 17)]⟩,
 ⟨some 7, none, .mov (.tmp 18)⟩])
 (.seq (.ops [⟨some 19, none, .mov (.tmp 0)⟩,
 ⟨some 20, none, .agg [(.int .i64 0), (.int .i64 0), (.int .i64 0), (.string ⟨#[]⟩), (.int .i64 0), (.int .i64 0), (.int .i64 0)] [(0, 1, (.const (.int .i64 16))), (1, 1, (.const (.int .i64 2)))]⟩,
 ⟨some 21, none, .mov (.tmp 1)⟩,
 ⟨some 22, none, .call (.func 40) [(.tmp 19), (.tmp 20), (.tmp 21)]⟩])
 (.seq (.ops [⟨some 23, none, .mov (.tmp 0)⟩,
 ⟨some 24, none, .mov (.tmp 7)⟩,
 ⟨some 25, none, .iad 1 (.tmp 24) (.const (.int .i64 0))⟩,
 ⟨some 26, none, .ld1 (.tmp 25)⟩,
 ⟨some 27, none, .mov (.tmp 2)⟩,
 ⟨some 28, none, .call (.func 24) [(.tmp 23), (.tmp 26), (.tmp 27)]⟩])
 (.seq (.ops [⟨some 29, none, .mov (.tmp 0)⟩,
 ⟨some 30, none, .mov (.tmp 7)⟩,
 ⟨some 31, none, .iad 1 (.tmp 30) (.const (.int .i64 1))⟩,
 ⟨some 32, none, .ld1 (.tmp 31)⟩,
 ⟨some 33, none, .mov (.tmp 2)⟩,
 ⟨some 34, none, .call (.func 24) [(.tmp 29), (.tmp 32), (.tmp 33)]⟩])
 (.seq (.ops [⟨some 35, none, .mov (.tmp 0)⟩,
 ⟨some 36, none, .nilck (.tmp 35)⟩,
 ⟨some 37, none, .fad (.tmp 36) 3⟩,
 ⟨some 38, none, .fad (.tmp 37) 0⟩,
 ⟨some 39, none, .ld1 (.tmp 38)⟩,
 ⟨some 40, none, .mov (.tmp 6)⟩,
 ⟨some 41, none, .iad 7 (.tmp 39) (.tmp 40)⟩,
 ⟨some 42, none, .fad (.tmp 41) 1⟩,
 ⟨some 43, none, .ld1 (.tmp 42)⟩,
 ⟨some 44, none, .bin .add (.tmp 43) (.const (.int .i64 1))⟩,
 ⟨some 45, none, .iad 7 (.tmp 39) (.tmp 40)⟩,
 ⟨some 46, none, .fad (.tmp 45) 1⟩,
 ⟨none, none, .st 1 (.tmp 46) (.tmp 44)⟩])
 (.ops [⟨some 47, none, .mov (.tmp 7)⟩,
 ⟨some 48, none, .iad 1 (.tmp 47) (.const (.int .i64 2))⟩,
 ⟨some 49, none, .ld1 (.tmp 48)⟩,
 ⟨some 1, none, .mov (.tmp 49)⟩]))))))))))
 (.seq (.ops [⟨some 50, none, .mov (.tmp 0)⟩,
 ⟨some 51, none, .mov (.tmp 1)⟩,
 ⟨some 52, none, .call (.func 87) [(.tmp 50), (.tmp 51), (.const (.int .i32 9))]⟩,
 ⟨some 8, none, .mov (.tmp 52)⟩])
 (.seq (.ops [⟨some 53, none, .mov (.tmp 0)⟩,
 ⟨some 54, none, .agg [(.int .i64 0), (.int .i64 0), (.int .i64 0), (.string ⟨#[]⟩), (.int .i64 0), (.int .i64 0), (.int .i64 0)] [(0, 1, (.const (.int .i64 17))), (1, 1, (.const (.int .i64 1)))]⟩,
 ⟨some 55, none, .mov (.tmp 1)⟩,
 ⟨some 56, none, .call (.func 40) [(.tmp 53), (.tmp 54), (.tmp 55)]⟩])
 (.ops [⟨some 57, none, .mov (.tmp 0)⟩,
 ⟨some 58, none, .mov (.tmp 8)⟩,
 ⟨some 59, none, .mov (.tmp 2)⟩,
 ⟨some 60, none, .call (.func 24) [(.tmp 57), (.tmp 58), (.tmp 59)]⟩])))))⟩
theorem ok61 : compF Tryz.prog Tryz.f61 = some c61 := by kernel_rfl
def c62 : CF := ⟨69, [],
 (.seq (.ops [⟨some 10, none, .mov (.tmp 0)⟩,
 ⟨some 11, none, .nilck (.tmp 10)⟩,
 ⟨some 12, none, .fad (.tmp 11) 0⟩,
 ⟨some 13, none, .ld1 (.tmp 12)⟩,
 ⟨some 14, none, .mov (.tmp 1)⟩,
 ⟨some 15, none, .iad 6 (.tmp 13) (.tmp 14)⟩,
 ⟨some 16, none, .fad (.tmp 15) 0⟩,
 ⟨some 17, none, .ld1 (.tmp 16)⟩,
 ⟨some 18, none, .bin .eql (.tmp 17) (.const (.int .i64 10))⟩,
 ⟨some 19, none, .call (.func 36) [(.tmp 18)]⟩])
 (.seq (.ops [⟨some 20, none, .mov (.tmp 0)⟩,
 ⟨some 21, none, .mov (.tmp 1)⟩,
 ⟨some 22, none, .call (.func 37) [(.tmp 20), (.tmp 21)]⟩,
 ⟨some 6, none, .mov (.tmp 22)⟩])
 (.seq (.draw [⟨some 23, none, .mov (.tmp 6)⟩,
 ⟨some 24, none, .iad 1 (.tmp 23) (.const (.int .i64 1))⟩,
 ⟨some 25, none, .ld1 (.tmp 24)⟩,
 ⟨some 26, none, .mov (.tmp 6)⟩,
 ⟨some 27, none, .iad 1 (.tmp 26) (.const (.int .i64 2))⟩,
 ⟨some 28, none, .ld1 (.tmp 27)⟩,
 ⟨some 7, none, .mov (.const (.int .i64 20))⟩,
 ⟨some 8, none, .mov (.tmp 25)⟩,
 ⟨some 9, none, .mov (.tmp 28)⟩] [(0, 3), (1, 3), (2, 3), (0, 4), (1, 4), (2, 4), (0, 5), (1, 5), (2, 5), (0, 6), (1, 6), (2, 6), (3, 6), (4, 6), (5, 6), (3, 7), (4, 7), (5, 7)])
 (.seq (.seq (.ops [⟨some 29, none, .mov (.tmp 0)⟩,
 ⟨some 30, none, .nilck (.tmp 29)⟩,
 ⟨some 31, none, .fad (.tmp 30) 0⟩,
 ⟨some 32, none, .ld1 (.tmp 31)⟩,
 ⟨some 33, none, .mov (.tmp 1)⟩,
 ⟨some 34, none, .iad 6 (.tmp 32) (.tmp 33)⟩,
 ⟨some 35, none, .fad (.tmp 34) 4⟩,
 ⟨some 36, none, .ld1 (.tmp 35)⟩,
 ⟨some 37, none, .bin .eql (.tmp 36) (.const (.int .i32 20))⟩])
 (.cond (.tmp 37)
 (.draw [⟨some 38, none, .mov (.tmp 6)⟩,
 ⟨some 39, none, .iad 1 (.tmp 38) (.const (.int .i64 2))⟩,
 ⟨some 40, none, .ld1 (.tmp 39)⟩,
 ⟨some 41, none, .mov (.tmp 6)⟩,
 ⟨some 42, none, .iad 1 (.tmp 41) (.const (.int .i64 1))⟩,
 ⟨some 43, none, .ld1 (.tmp 42)⟩,
 ⟨some 7, none, .mov (.const (.int .i64 21))⟩,
 ⟨some 8, none, .mov (.tmp 40)⟩,
 ⟨some 9, none, .mov (.tmp 43)⟩] [(0, 3), (1, 3), (2, 3), (0, 4), (1, 4), (2, 4), (0, 5), (1, 5), (2, 5), (0, 6), (1, 6), (2, 6), (3, 6), (4, 6), (5, 6), (3, 7), (4, 7), (5, 7)])
 .skip))
 (.seq (.ops [⟨some 44, none, .mov (.tmp 0)⟩,
 ⟨some 45, none, .nilck (.tmp 44)⟩,
 ⟨some 46, none, .fad (.tmp 45) 0⟩,
 ⟨some 47, none, .ld1 (.tmp 46)⟩,
 ⟨some 48, none, .mov (.tmp 9)⟩,
 ⟨some 49, none, .iad 6 (.tmp 47) (.tmp 48)⟩,
 ⟨some 50, none, .fad (.tmp 49) 0⟩,
 ⟨some 51, none, .ld1 (.tmp 50)⟩,
 ⟨some 52, none, .bin .eql (.tmp 51) (.const (.int .i64 4))⟩,
 ⟨some 53, none, .call (.func 36) [(.tmp 52)]⟩])
 (.seq (.ops [⟨some 54, none, .mov (.tmp 0)⟩,
 ⟨some 55, none, .mov (.tmp 7)⟩,
 ⟨some 56, none, .agg [(.int .i64 0), (.int .i64 0), (.int .i64 0), (.string ⟨#[]⟩), (.int .i64 0), (.int .i64 0), (.int .i64 0)] [(0, 1, (.tmp 55)), (1, 1, (.const (.int .i64 2)))]⟩,
 ⟨some 57, none, .mov (.tmp 1)⟩,
 ⟨some 58, none, .call (.func 40) [(.tmp 54), (.tmp 56), (.tmp 57)]⟩])
 (.seq (.ops [⟨some 59, none, .mov (.tmp 0)⟩,
 ⟨some 60, none, .mov (.tmp 6)⟩,
 ⟨some 61, none, .iad 1 (.tmp 60) (.const (.int .i64 0))⟩,
 ⟨some 62, none, .ld1 (.tmp 61)⟩,
 ⟨some 63, none, .mov (.tmp 2)⟩,
 ⟨some 64, none, .call (.func 24) [(.tmp 59), (.tmp 62), (.tmp 63)]⟩])
 (.ops [⟨some 65, none, .mov (.tmp 0)⟩,
 ⟨some 66, none, .mov (.tmp 8)⟩,
 ⟨some 67, none, .mov (.tmp 2)⟩,
 ⟨some 68, none, .call (.func 24) [(.tmp 65), (.tmp 66), (.tmp 67)]⟩]))))))))⟩
theorem ok62 : compF Tryz.prog Tryz.f62 = some c62 := by kernel_rfl
def c63 : CF := ⟨180, [],
 (.seq (.ops [⟨some 15, none, .mov (.tmp 0)⟩,
 ⟨some 16, none, .nilck (.tmp 15)⟩,
 ⟨some 17, none, .fad (.tmp 16) 0⟩,
 ⟨some 18, none, .ld1 (.tmp 17)⟩,
 ⟨some 19, none, .mov (.tmp 1)⟩,
 ⟨some 20, none, .iad 6 (.tmp 18) (.tmp 19)⟩,
 ⟨some 21, none, .fad (.tmp 20) 4⟩,
 ⟨some 22, none, .ld1 (.tmp 21)⟩,
 ⟨some 23, none, .cvi .i64 (.tmp 22)⟩,
 ⟨some 24, none, .call (.func 88) [(.tmp 23)]⟩,
 ⟨some 14, none, .mov (.tmp 24)⟩,
 ⟨some 25, none, .ext (.tmp 14) 0⟩,
 ⟨some 26, none, .ext (.tmp 14) 1⟩,
 ⟨some 6, none, .mov (.tmp 25)⟩,
 ⟨some 7, none, .mov (.tmp 26)⟩])
 (.seq (.ops [⟨some 27, none, .mov (.tmp 0)⟩,
 ⟨some 28, none, .mov (.tmp 6)⟩,
 ⟨some 29, none, .agg [(.int .i64 0), (.int .i64 0), (.int .i64 0), (.string ⟨#[]⟩), (.int .i64 0), (.int .i64 0), (.int .i64 0)] [(0, 1, (.tmp 28))]⟩,
 ⟨some 30, none, .mov (.tmp 1)⟩,
 ⟨some 31, none, .call (.func 40) [(.tmp 27), (.tmp 29), (.tmp 30)]⟩,
 ⟨some 8, none, .mov (.tmp 31)⟩])
 (.seq (.block 0 (.loop (.block 1 (.seq (.ops [⟨some 33, none, .mov (.tmp 0)⟩,
 ⟨some 34, none, .mov (.tmp 1)⟩,
 ⟨some 35, none, .mov (.tmp 6)⟩,
 ⟨some 36, none, .call (.func 89) [(.tmp 33), (.tmp 34), (.tmp 35)]⟩,
 ⟨some 32, none, .mov (.tmp 36)⟩,
 ⟨some 37, none, .ext (.tmp 32) 0⟩,
 ⟨some 38, none, .ext (.tmp 32) 1⟩,
 ⟨some 9, none, .newz [(.int .i64 0), (.int .i64 0), (.bool false)]⟩,
 ⟨none, none, .st 3 (.tmp 9) (.tmp 37)⟩,
 ⟨some 10, none, .mov (.tmp 38)⟩])
 (.seq (.seq (.ops [⟨some 39, none, .mov (.tmp 10)⟩,
 ⟨some 40, none, .un .not (.tmp 39)⟩])
 (.cond (.tmp 40)
 (.exit 0)
 .skip))
 (.seq (.ops [⟨some 41, none, .mov (.tmp 0)⟩,
 ⟨some 42, none, .fad (.tmp 9) 0⟩,
 ⟨some 43, none, .ld1 (.tmp 42)⟩,
 ⟨some 44, none, .mov (.tmp 2)⟩,
 ⟨some 45, none, .call (.func 24) [(.tmp 41), (.tmp 43), (.tmp 44)]⟩])
 (.seq (.ops [⟨some 46, none, .mov (.tmp 0)⟩,
 ⟨some 47, none, .nilck (.tmp 46)⟩,
 ⟨some 48, none, .fad (.tmp 47) 3⟩,
 ⟨some 49, none, .fad (.tmp 48) 0⟩,
 ⟨some 50, none, .ld1 (.tmp 49)⟩,
 ⟨some 51, none, .mov (.tmp 8)⟩,
 ⟨some 52, none, .iad 7 (.tmp 50) (.tmp 51)⟩,
 ⟨some 53, none, .fad (.tmp 52) 1⟩,
 ⟨some 54, none, .ld1 (.tmp 53)⟩,
 ⟨some 55, none, .bin .add (.tmp 54) (.const (.int .i64 1))⟩,
 ⟨some 56, none, .iad 7 (.tmp 50) (.tmp 51)⟩,
 ⟨some 57, none, .fad (.tmp 56) 1⟩,
 ⟨none, none, .st 1 (.tmp 57) (.tmp 55)⟩])
 (.seq (.seq (.ops [⟨some 58, none, .fad (.tmp 9) 2⟩,
 ⟨some 59, none, .ld1 (.tmp 58)⟩])
 (.cond (.tmp 59)
 (.ops [⟨some 60, none, .mov (.tmp 2)⟩,
 ⟨some 61, none, .lits [(.int .i64 0)] 1 [(0, 1, (.const (.int .i64 (-1))))]⟩,
 ⟨some 62, none, .call (.func 65) [(.tmp 60), (.tmp 61)]⟩,
 ⟨some 2, none, .mov (.tmp 62)⟩])
 .skip))
 (.ops [⟨some 63, none, .fad (.tmp 9) 1⟩,
 ⟨some 64, none, .ld1 (.tmp 63)⟩,
 ⟨some 1, none, .mov (.tmp 64)⟩])))))))))
 (.seq (.ops [⟨some 65, none, .mkm⟩,
 ⟨none, none, .mup (.int .i64) (.tmp 65) (.const (.int .i64 18)) (.const (.int .i32 11))⟩,
 ⟨none, none, .mup (.int .i64) (.tmp 65) (.const (.int .i64 19)) (.const (.int .i32 14))⟩,
 ⟨none, none, .mup (.int .i64) (.tmp 65) (.const (.int .i64 22)) (.const (.int .i32 21))⟩,
 ⟨some 66, none, .mov (.tmp 65)⟩,
 ⟨some 67, none, .mov (.tmp 6)⟩,
 ⟨some 68, none, .lkp (.int .i64) (.int .i32 0) (.tmp 66) (.tmp 67) false⟩,
 ⟨some 11, none, .mov (.tmp 68)⟩])
 (.seq (.seq (.ops [⟨some 69, none, .mov (.tmp 11)⟩,
 ⟨some 70, none, .bin .gtr (.tmp 69) (.const (.int .i32 0))⟩,
 ⟨some 71, none, .mov (.tmp 70)⟩,
 ⟨some 72, (some (71, true)), .mov (.tmp 0)⟩,
 ⟨some 73, (some (71, true)), .nilck (.tmp 72)⟩,
 ⟨some 74, (some (71, true)), .fad (.tmp 73) 0⟩,
 ⟨some 75, (some (71, true)), .ld1 (.tmp 74)⟩,
 ⟨some 76, (some (71, true)), .mov (.tmp 1)⟩,
 ⟨some 77, (some (71, true)), .iad 6 (.tmp 75) (.tmp 76)⟩,
 ⟨some 78, (some (71, true)), .fad (.tmp 77) 4⟩,
 ⟨some 79, (some (71, true)), .ld1 (.tmp 78)⟩,
 ⟨some 80, (some (71, true)), .mov (.tmp 11)⟩,
 ⟨some 81, (some (71, true)), .bin .eql (.tmp 79) (.tmp 80)⟩,
 ⟨some 82, none, .pick (.tmp 71) (.tmp 81) (.const (.bool false))⟩])
 (.cond (.tmp 82)
 (.seq (.ops [⟨some 83, none, .mov (.tmp 0)⟩,
 ⟨some 84, none, .mov (.tmp 0)⟩,
 ⟨some 85, none, .mov (.tmp 1)⟩,
 ⟨some 86, none, .mov (.tmp 11)⟩,
 ⟨some 87, none, .call (.func 87) [(.tmp 84), (.tmp 85), (.tmp 86)]⟩,
 ⟨some 88, none, .mov (.tmp 2)⟩,
 ⟨some 89, none, .call (.func 24) [(.tmp 83), (.tmp 87), (.tmp 88)]⟩])
 (.seq (.ops [⟨some 90, none, .mov (.tmp 0)⟩,
 ⟨some 91, none, .nilck (.tmp 90)⟩,
 ⟨some 92, none, .fad (.tmp 91) 3⟩,
 ⟨some 93, none, .fad (.tmp 92) 0⟩,
 ⟨some 94, none, .ld1 (.tmp 93)⟩,
 ⟨some 95, none, .mov (.tmp 8)⟩,
 ⟨some 96, none, .iad 7 (.tmp 94) (.tmp 95)⟩,
 ⟨some 97, none, .fad (.tmp 96) 1⟩,
 ⟨some 98, none, .ld1 (.tmp 97)⟩,
 ⟨some 99, none, .bin .add (.tmp 98) (.const (.int .i64 1))⟩,
 ⟨some 100, none, .iad 7 (.tmp 94) (.tmp 95)⟩,
 ⟨some 101, none, .fad (.tmp 100) 1⟩,
 ⟨none, none, .st 1 (.tmp 101) (.tmp 99)⟩])
 .ret))
 .skip))
 (.seq (.ops [⟨some 102, none, .mov (.tmp 6)⟩])
 (.block 2 (.seq (.ops [⟨some 105, none, .bin .eql (.tmp 102) (.const (.int .i64 23))⟩,
 ⟨some 104, none, .mov (.tmp 105)⟩])
 (.cond (.tmp 104)
 (.draw [⟨some 106, none, .mov (.tmp 0)⟩,
 ⟨some 107, none, .nilck (.tmp 106)⟩,
 ⟨some 108, none, .fad (.tmp 107) 0⟩,
 ⟨some 109, none, .ld1 (.tmp 108)⟩,
 ⟨some 110, none, .mov (.tmp 0)⟩,
 ⟨some 111, none, .mov (.tmp 1)⟩,
 ⟨some 112, none, .call (.func 87) [(.tmp 110), (.tmp 111), (.const (.int .i32 32))]⟩,
 ⟨some 113, none, .iad 6 (.tmp 109) (.tmp 112)⟩,
 ⟨some 114, none, .fad (.tmp 113) 0⟩,
 ⟨some 115, none, .ld1 (.tmp 114)⟩,
 ⟨some 116, none, .bin .eql (.tmp 115) (.const (.int .i64 4))⟩,
 ⟨some 117, none, .call (.func 36) [(.tmp 116)]⟩] [(0, 4), (1, 4), (2, 4), (3, 4), (0, 5), (1, 5), (2, 5), (3, 5), (4, 5), (0, 6), (1, 6), (2, 6), (3, 6)])
 (.seq (.ops [⟨some 119, none, .bin .eql (.tmp 102) (.const (.int .i64 18))⟩,
 ⟨some 118, none, .mov (.tmp 119)⟩])
 (.cond (.tmp 118)
 (.seq (.ops [⟨some 120, none, .mov (.tmp 0)⟩,
 ⟨some 121, none, .nilck (.tmp 120)⟩,
 ⟨some 122, none, .fad (.tmp 121) 3⟩,
 ⟨some 123, none, .fad (.tmp 122) 0⟩,
 ⟨some 124, none, .ld1 (.tmp 123)⟩,
 ⟨some 125, none, .mov (.tmp 8)⟩,
 ⟨some 126, none, .iad 7 (.tmp 124) (.tmp 125)⟩,
 ⟨some 127, none, .fad (.tmp 126) 1⟩,
 ⟨some 128, none, .ld1 (.tmp 127)⟩,
 ⟨some 129, none, .bin .eql (.tmp 128) (.const (.int .i64 0))⟩,
 ⟨some 130, none, .call (.func 36) [(.tmp 129)]⟩])
 (.seq (.draw [⟨some 131, none, .mov (.tmp 0)⟩,
 ⟨some 132, none, .nilck (.tmp 131)⟩,
 ⟨some 133, none, .fad (.tmp 132) 0⟩,
 ⟨some 134, none, .ld1 (.tmp 133)⟩,
 ⟨some 135, none, .mov (.tmp 0)⟩,
 ⟨some 136, none, .mov (.tmp 1)⟩,
 ⟨some 137, none, .call (.func 87) [(.tmp 135), (.tmp 136), (.const (.int .i32 28))]⟩,
 ⟨some 138, none, .iad 6 (.tmp 134) (.tmp 137)⟩,
 ⟨some 139, none, .ld 6 (.tmp 138)⟩,
 ⟨some 12, none, .newz [(.int .i64 0), (.int .i64 0), (.int .i64 0), (.string ⟨#[]⟩), (.int .i32 0), (.int .i32 0)]⟩,
 ⟨none, none, .st 6 (.tmp 12) (.tmp 139)⟩] [(0, 4), (1, 4), (2, 4), (3, 4), (0, 5), (1, 5), (2, 5), (3, 5), (4, 5), (0, 6), (1, 6), (2, 6), (3, 6), (0, 9), (1, 9), (2, 9), (3, 9), (4, 9), (5, 9), (6, 9), (7, 9), (8, 9)])
 (.ops [⟨some 140, none, .fad (.tmp 12) 0⟩,
 ⟨some 141, none, .ld1 (.tmp 140)⟩,
 ⟨some 142, none, .bin .eql (.tmp 141) (.const (.int .i64 2))⟩,
 ⟨some 143, none, .mov (.tmp 142)⟩,
 ⟨some 144, (some (143, true)), .fad (.tmp 12) 2⟩,
 ⟨some 145, (some (143, true)), .ld1 (.tmp 144)⟩,
 ⟨some 146, (some (143, true)), .bin .eql (.tmp 145) (.const (.int .i64 1))⟩,
 ⟨some 147, none, .pick (.tmp 143) (.tmp 146) (.const (.bool false))⟩,
 ⟨some 148, none, .call (.func 36) [(.tmp 147)]⟩])))
 (.seq (.ops [⟨some 150, none, .bin .eql (.tmp 102) (.const (.int .i64 19))⟩,
 ⟨some 149, none, .mov (.tmp 150)⟩])
 (.cond (.tmp 149)
 (.seq (.ops [⟨some 151, none, .mov (.tmp 0)⟩,
 ⟨some 152, none, .nilck (.tmp 151)⟩,
 ⟨some 153, none, .fad (.tmp 152) 3⟩,
 ⟨some 154, none, .fad (.tmp 153) 0⟩,
 ⟨some 155, none, .ld1 (.tmp 154)⟩,
 ⟨some 156, none, .mov (.tmp 8)⟩,
 ⟨some 157, none, .iad 7 (.tmp 155) (.tmp 156)⟩,
 ⟨some 158, none, .fad (.tmp 157) 1⟩,
 ⟨some 159, none, .ld1 (.tmp 158)⟩,
 ⟨some 160, none, .bin .eql (.tmp 159) (.const (.int .i64 0))⟩,
 ⟨some 161, none, .call (.func 36) [(.tmp 160)]⟩])
 (.seq (.draw [⟨some 162, none, .mov (.tmp 0)⟩,
 ⟨some 163, none, .nilck (.tmp 162)⟩,
 ⟨some 164, none, .fad (.tmp 163) 0⟩,
 ⟨some 165, none, .ld1 (.tmp 164)⟩,
 ⟨some 166, none, .mov (.tmp 0)⟩,
 ⟨some 167, none, .mov (.tmp 1)⟩,
 ⟨some 168, none, .call (.func 87) [(.tmp 166), (.tmp 167), (.const (.int .i32 30))]⟩,
 ⟨some 169, none, .iad 6 (.tmp 165) (.tmp 168)⟩,
 ⟨some 170, none, .ld 6 (.tmp 169)⟩,
 ⟨some 13, none, .newz [(.int .i64 0), (.int .i64 0), (.int .i64 0), (.string ⟨#[]⟩), (.int .i32 0), (.int .i32 0)]⟩,
 ⟨none, none, .st 6 (.tmp 13) (.tmp 170)⟩] [(0, 4), (1, 4), (2, 4), (3, 4), (0, 5), (1, 5), (2, 5), (3, 5), (4, 5), (0, 6), (1, 6), (2, 6), (3, 6), (0, 9), (1, 9), (2, 9), (3, 9), (4, 9), (5, 9), (6, 9), (7, 9), (8, 9)])
 (.ops [⟨some 171, none, .fad (.tmp 13) 0⟩,
 ⟨some 172, none, .ld1 (.tmp 171)⟩,
 ⟨some 173, none, .bin .eql (.tmp 172) (.const (.int .i64 2))⟩,
 ⟨some 174, none, .mov (.tmp 173)⟩,
 ⟨some 175, (some (174, true)), .fad (.tmp 13) 2⟩,
 ⟨some 176, (some (174, true)), .ld1 (.tmp 175)⟩,
 ⟨some 177, (some (174, true)), .bin .eql (.tmp 176) (.const (.int .i64 0))⟩,
 ⟨some 178, none, .pick (.tmp 174) (.tmp 177) (.const (.bool false))⟩,
 ⟨some 179, none, .call (.func 36) [(.tmp 178)]⟩])))
 (.ops [⟨some 103, none, .call (.func 36) [(.const (.bool false))]⟩]))))))))))))))⟩
theorem ok63 : compF Tryz.prog Tryz.f63 = some c63 := by kernel_rfl
def c64 : CF := ⟨31, [.tmp 8],
 (.seq (.ops [⟨some 8, none, .mov (.const (.bool false))⟩])
 (.seq (.ops [⟨some 9, none, .mov (.tmp 0)⟩,
 ⟨some 10, none, .nilck (.tmp 9)⟩,
 ⟨some 11, none, .fad (.tmp 10) 0⟩,
 ⟨some 12, none, .ld1 (.tmp 11)⟩,
 ⟨some 13, none, .mov (.tmp 1)⟩,
 ⟨some 14, none, .iad 6 (.tmp 12) (.tmp 13)⟩,
 ⟨some 15, none, .fad (.tmp 14) 0⟩,
 ⟨some 16, none, .ld1 (.tmp 15)⟩,
 ⟨some 17, none, .mov (.tmp 2)⟩,
 ⟨some 18, none, .bin .eql (.tmp 16) (.tmp 17)⟩,
 ⟨some 19, none, .mov (.tmp 18)⟩,
 ⟨some 20, (some (19, true)), .mov (.tmp 0)⟩,
 ⟨some 21, (some (19, true)), .nilck (.tmp 20)⟩,
 ⟨some 22, (some (19, true)), .fad (.tmp 21) 0⟩,
 ⟨some 23, (some (19, true)), .ld1 (.tmp 22)⟩,
 ⟨some 24, (some (19, true)), .mov (.tmp 1)⟩,
 ⟨some 25, (some (19, true)), .iad 6 (.tmp 23) (.tmp 24)⟩,
 ⟨some 26, (some (19, true)), .fad (.tmp 25) 4⟩,
 ⟨some 27, (some (19, true)), .ld1 (.tmp 26)⟩,
 ⟨some 28, (some (19, true)), .mov (.tmp 3)⟩,
 ⟨some 29, (some (19, true)), .bin .eql (.tmp 27) (.tmp 28)⟩,
 ⟨some 30, none, .pick (.tmp 19) (.tmp 29) (.const (.bool false))⟩,
 ⟨some 8, none, .mov (.tmp 30)⟩])
 .ret))⟩
theorem ok64 : compF Tryz.prog Tryz.f64 = some c64 := by kernel_rfl
def c65 : CF := ⟨13, [.tmp 4],
 (.seq (.ops [⟨some 4, none, .mov (.const (.slice none 0 0))⟩])
 (.seq (.ops [⟨some 5, none, .mov (.tmp 0)⟩,
 ⟨some 6, none, .mov (.tmp 0)⟩,
 ⟨some 7, none, .lnl (.tmp 6)⟩,
 ⟨some 8, none, .mov (.tmp 0)⟩,
 ⟨some 9, none, .lnl (.tmp 8)⟩,
 ⟨some 10, none, .sl 1 (.tmp 5) none (some (.tmp 7)) (some (.tmp 9))⟩,
 ⟨some 11, none, .mov (.tmp 1)⟩,
 ⟨some 12, none, .app 1 8 (.tmp 10) (.tmp 11)⟩,
 ⟨some 4, none, .mov (.tmp 12)⟩])
 .ret))⟩
theorem ok65 : compF Tryz.prog Tryz.f65 = some c65 := by kernel_rfl
def c66 : CF := ⟨25, [.tmp 4],
 (.seq (.ops [⟨some 4, none, .mov (.const (.int .i64 0))⟩])
 (.seq (.ops [⟨some 5, none, .mov (.tmp 0)⟩,
 ⟨some 6, none, .mov (.tmp 0)⟩,
 ⟨some 7, none, .nilck (.tmp 6)⟩,
 ⟨some 8, none, .fad (.tmp 7) 5⟩,
 ⟨some 9, none, .ld1 (.tmp 8)⟩,
 ⟨some 10, none, .agg [(.int .i64 0), (.int .i64 0), (.int .i64 0), (.string ⟨#[]⟩), (.int .i64 0), (.int .i64 0), (.int .i64 0)] [(0, 1, (.const (.int .i64 9))), (2, 1, (.tmp 9)), (3, 1, (.const (.string ⟨#[118]⟩)))]⟩,
 ⟨some 11, none, .mov (.tmp 1)⟩,
 ⟨some 12, none, .call (.func 40) [(.tmp 5), (.tmp 10), (.tmp 11)]⟩])
 (.seq (.ops [⟨some 13, none, .mov (.tmp 0)⟩,
 ⟨some 14, none, .nilck (.tmp 13)⟩,
 ⟨some 15, none, .fad (.tmp 14) 5⟩,
 ⟨some 16, none, .ld1 (.tmp 15)⟩,
 ⟨some 17, none, .bin .add (.tmp 16) (.const (.int .i64 1))⟩,
 ⟨some 18, none, .nilck (.tmp 13)⟩,
 ⟨some 19, none, .fad (.tmp 18) 5⟩,
 ⟨none, none, .st 1 (.tmp 19) (.tmp 17)⟩])
 (.seq (.ops [⟨some 20, none, .mov (.tmp 0)⟩,
 ⟨some 21, none, .nilck (.tmp 20)⟩,
 ⟨some 22, none, .fad (.tmp 21) 5⟩,
 ⟨some 23, none, .ld1 (.tmp 22)⟩,
 ⟨some 24, none, .bin .sub (.tmp 23) (.const (.int .i64 1))⟩,
 ⟨some 4, none, .mov (.tmp 24)⟩])
 .ret))))⟩
theorem ok66 : compF Tryz.prog Tryz.f66 = some c66 := by kernel_rfl
def c67 : CF := ⟨75, [.tmp 2, .tmp 3, .tmp 4],
 (.seq (.ops [⟨some 2, none, .mov (.const (.pointer none))⟩,
 ⟨some 3, none, .mov (.const (.int .i64 0))⟩,
 ⟨some 4, none, .mov (.const (.int .i64 0))⟩])
 (.seq (.block 0 (.seq (.ops [⟨some 12, none, .mov (.tmp 0)⟩,
 ⟨some 13, none, .lnl (.tmp 12)⟩,
 ⟨some 14, none, .bin .eql (.tmp 13) (.const (.int .i64 0))⟩,
 ⟨some 11, none, .mov (.tmp 14)⟩])
 (.cond (.tmp 11)
 (.seq (.ops [⟨some 2, none, .mov (.const (.pointer none))⟩,
 ⟨some 3, none, .mov (.const (.int .i64 0))⟩,
 ⟨some 4, none, .mov (.const (.int .i64 6))⟩])
 .ret)
 (.seq (.ops [⟨some 16, none, .mov (.tmp 0)⟩,
 ⟨some 17, none, .lnl (.tmp 16)⟩,
 ⟨some 18, none, .bin .gtr (.tmp 17) (.const (.int .i64 2000))⟩,
 ⟨some 15, none, .mov (.tmp 18)⟩])
 (.cond (.tmp 15)
 (.seq (.ops [⟨some 2, none, .mov (.const (.pointer none))⟩,
 ⟨some 3, none, .mov (.const (.int .i64 0))⟩,
 ⟨some 4, none, .mov (.const (.int .i64 3))⟩])
 .ret)
 .skip)))))
 (.seq (.ops [⟨some 19, none, .mov (.tmp 0)⟩,
 ⟨some 20, none, .call (.func 90) []⟩,
 ⟨some 21, none, .mkm⟩,
 ⟨some 22, none, .agg [(.slice none 0 0), (.slice none 0 0), (.int .i64 0), (.int .i64 0), (.int .i64 0), (.int .i64 0), (.slice none 0 0), (.int .i64 0), (.int .i64 0), (.int .i64 0), (.int .i64 0), (.slice none 0 0), (.int .i64 0), (.int .i64 0), (.int .i64 0), (.int .i64 0), (.slice none 0 0), (.int .i64 0), (.int .i64 0), (.int .i64 0), (.int .i64 0), (.slice none 0 0), (.int .i64 0), (.int .i64 0), (.int .i64 0), (.int .i64 0), (.slice none 0 0), (.int .i64 0), (.int .i64 0), (.int .i64 0), (.int .i64 0), (.slice none 0 0), (.int .i64 0), (.int .i64 0), (.int .i64 0), (.int .i64 0), (.slice none 0 0), (.int .i64 0), (.int .i64 0), (.int .i64 0), (.int .i64 0), (.slice none 0 0), (.int .i64 0), (.int .i64 0), (.int .i64 0), (.int .i64 0), (.slice none 0 0), (.int .i64 0), (.int .i64 0), (.int .i64 0), (.int .i64 0), (.slice none 0 0), (.int .i64 0), (.int .i64 0), (.int .i64 0), (.int .i64 0), (.slice none 0 0), (.int .i64 0), (.int .i64 0), (.int .i64 0), (.int .i64 0), (.slice none 0 0), (.int .i64 0), (.int .i64 0), (.int .i64 0), (.int .i64 0), (.slice none 0 0), (.int .i64 0), (.int .i64 0), (.int .i64 0), (.int .i64 0), (.slice none 0 0), (.int .i64 0), (.int .i64 0), (.int .i64 0), (.int .i64 0), (.slice none 0 0), (.int .i64 0), (.int .i64 0), (.int .i64 0), (.int .i64 0), (.slice none 0 0), (.int .i64 0), (.int .i64 0), (.int .i64 0), (.int .i64 0), (.slice none 0 0), (.int .i64 0), (.int .i64 0), (.int .i64 0), (.int .i64 0), (.slice none 0 0), (.int .i64 0), (.int .i64 0), (.int .i64 0), (.int .i64 0), (.slice none 0 0), (.int .i64 0), (.int .i64 0), (.int .i64 0), (.int .i64 0), (.slice none 0 0), (.int .i64 0), (.int .i64 0), (.int .i64 0), (.int .i64 0), (.slice none 0 0), (.int .i64 0), (.int .i64 0), (.int .i64 0), (.int .i64 0), (.slice none 0 0), (.int .i64 0), (.int .i64 0), (.int .i64 0), (.int .i64 0), (.slice none 0 0), (.int .i64 0), (.int .i64 0), (.int .i64 0), (.int .i64 0), (.slice none 0 0), (.int .i64 0), (.int .i64 0), (.int .i64 0), (.int .i64 0), (.slice none 0 0), (.map none)] [(0, 1, (.tmp 19)), (2, 125, (.tmp 20)), (127, 1, (.tmp 21))]⟩,
 ⟨some 23, none, .box (.tmp 22)⟩,
 ⟨some 5, none, .mov (.tmp 23)⟩])
 (.seq (.seq (.ops [⟨some 24, none, .mov (.tmp 0)⟩,
 ⟨some 25, none, .lnl (.tmp 24)⟩,
 ⟨some 26, none, .mov (.const (.int .i64 0))⟩])
 (.block 1 (.loop (.seq (.ops [⟨some 27, none, .bin .lss (.tmp 26) (.tmp 25)⟩])
 (.seq (.cond (.tmp 27)
 .skip
 (.exit 1))
 (.seq (.block 2 (.seq (.ops [⟨some 28, none, .mov (.tmp 26)⟩,
 ⟨some 29, none, .iad 7 (.tmp 24) (.tmp 26)⟩,
 ⟨some 30, none, .ld 7 (.tmp 29)⟩,
 ⟨some 7, none, .newz [(.int .i64 0), (.int .i64 0), (.int .i64 0), (.string ⟨#[]⟩), (.int .i64 0), (.int .i64 0), (.int .i64 0)]⟩,
 ⟨some 6, none, .mov (.tmp 28)⟩,
 ⟨none, none, .st 7 (.tmp 7) (.tmp 30)⟩])
 (.seq (.ops [⟨some 31, none, .mov (.tmp 5)⟩,
 ⟨some 32, none, .call (.func 91) [(.tmp 31)]⟩,
 ⟨some 8, none, .newz [(.int .i64 0), (.int .i64 0), (.int .i64 0)]⟩,
 ⟨none, none, .st 3 (.tmp 8) (.tmp 32)⟩])
 (.seq (.seq (.ops [⟨some 33, none, .fad (.tmp 8) 2⟩,
 ⟨some 34, none, .ld1 (.tmp 33)⟩,
 ⟨some 35, none, .bin .lss (.tmp 34) (.const (.int .i64 0))⟩])
 (.cond (.tmp 35)
 (.seq (.ops [⟨some 36, none, .mov (.tmp 6)⟩,
 ⟨some 2, none, .mov (.const (.pointer none))⟩,
 ⟨some 3, none, .mov (.tmp 36)⟩,
 ⟨some 4, none, .mov (.const (.int .i64 6))⟩])
 .ret)
 .skip))
 (.seq (.seq (.ops [⟨some 37, none, .ld 7 (.tmp 7)⟩,
 ⟨some 38, none, .fad (.tmp 8) 2⟩,
 ⟨some 39, none, .ld1 (.tmp 38)⟩,
 ⟨some 40, none, .call (.func 92) [(.tmp 37), (.tmp 39)]⟩,
 ⟨some 9, none, .mov (.tmp 40)⟩])
 (.seq (.ops [⟨some 41, none, .mov (.tmp 9)⟩,
 ⟨some 42, none, .bin .neq (.tmp 41) (.const (.int .i64 0))⟩])
 (.cond (.tmp 42)
 (.seq (.ops [⟨some 43, none, .mov (.tmp 6)⟩,
 ⟨some 44, none, .mov (.tmp 9)⟩,
 ⟨some 2, none, .mov (.const (.pointer none))⟩,
 ⟨some 3, none, .mov (.tmp 43)⟩,
 ⟨some 4, none, .mov (.tmp 44)⟩])
 .ret)
 .skip)))
 (.seq (.seq (.ops [⟨some 45, none, .mov (.tmp 5)⟩,
 ⟨some 46, none, .ld 7 (.tmp 7)⟩,
 ⟨some 47, none, .ld 3 (.tmp 8)⟩,
 ⟨some 48, none, .call (.func 93) [(.tmp 45), (.tmp 46), (.tmp 47)]⟩,
 ⟨some 10, none, .mov (.tmp 48)⟩])
 (.seq (.ops [⟨some 49, none, .mov (.tmp 10)⟩,
 ⟨some 50, none, .bin .neq (.tmp 49) (.const (.int .i64 0))⟩])
 (.cond (.tmp 50)
 (.seq (.ops [⟨some 51, none, .mov (.tmp 6)⟩,
 ⟨some 52, none, .mov (.tmp 10)⟩,
 ⟨some 2, none, .mov (.const (.pointer none))⟩,
 ⟨some 3, none, .mov (.tmp 51)⟩,
 ⟨some 4, none, .mov (.tmp 52)⟩])
 .ret)
 .skip)))
 (.draw [⟨some 53, none, .mov (.tmp 5)⟩,
 ⟨some 54, none, .mov (.tmp 5)⟩,
 ⟨some 55, none, .nilck (.tmp 54)⟩,
 ⟨some 56, none, .fad (.tmp 55) 1⟩,
 ⟨some 57, none, .ld1 (.tmp 56)⟩,
 ⟨some 58, none, .ld 3 (.tmp 8)⟩,
 ⟨some 59, none, .lits [(.int .i64 0), (.int .i64 0), (.int .i64 0)] 1 [(0, 3, (.tmp 58))]⟩,
 ⟨some 60, none, .app 3 24 (.tmp 57) (.tmp 59)⟩,
 ⟨some 61, none, .nilck (.tmp 53)⟩,
 ⟨some 62, none, .fad (.tmp 61) 1⟩,
 ⟨none, none, .st 1 (.tmp 62) (.tmp 60)⟩] [(0, 1), (0, 2), (0, 3), (0, 4), (0, 5), (1, 5), (2, 5), (3, 5), (4, 5), (0, 6), (1, 6), (2, 6), (3, 6), (4, 6), (0, 7)])))))))
 (.ops [⟨some 63, none, .bin .add (.tmp 26) (.const (.int .i64 1))⟩,
 ⟨some 26, none, .mov (.tmp 63)⟩])))))))
 (.seq (.seq (.ops [⟨some 64, none, .mov (.tmp 5)⟩,
 ⟨some 65, none, .call (.func 91) [(.tmp 64)]⟩,
 ⟨some 66, none, .fld1 (.tmp 65) 2⟩,
 ⟨some 67, none, .bin .geq (.tmp 66) (.const (.int .i64 0))⟩])
 (.cond (.tmp 67)
 (.seq (.ops [⟨some 68, none, .mov (.tmp 0)⟩,
 ⟨some 69, none, .lnl (.tmp 68)⟩,
 ⟨some 2, none, .mov (.const (.pointer none))⟩,
 ⟨some 3, none, .mov (.tmp 69)⟩,
 ⟨some 4, none, .mov (.const (.int .i64 6))⟩])
 .ret)
 .skip))
 (.seq (.ops [⟨some 70, none, .mov (.tmp 5)⟩,
 ⟨some 71, none, .call (.func 94) [(.tmp 70)]⟩,
 ⟨some 72, none, .ext (.tmp 71) 0⟩,
 ⟨some 73, none, .ext (.tmp 71) 1⟩,
 ⟨some 74, none, .ext (.tmp 71) 2⟩,
 ⟨some 2, none, .mov (.tmp 72)⟩,
 ⟨some 3, none, .mov (.tmp 73)⟩,
 ⟨some 4, none, .mov (.tmp 74)⟩])
 .ret))))))⟩
theorem ok67 : compF Tryz.prog Tryz.f67 = some c67 := by kernel_rfl
def c68 : CF := ⟨30, [.tmp 4],
 (.seq (.ops [⟨some 4, none, .mov (.const (.slice none 0 0))⟩])
 (.seq (.ops [⟨some 5, none, .mov (.const (.slice none 0 0))⟩])
 (.seq (.seq (.ops [⟨some 7, none, .mov (.tmp 1)⟩,
 ⟨some 8, none, .bin .add (.tmp 7) (.const (.int .i64 1))⟩,
 ⟨some 6, none, .mov (.tmp 8)⟩])
 (.block 0 (.loop (.seq (.seq (.ops [⟨some 9, none, .mov (.tmp 6)⟩,
 ⟨some 10, none, .mov (.tmp 0)⟩,
 ⟨some 11, none, .nilck (.tmp 10)⟩,
 ⟨some 12, none, .fad (.tmp 11) 1⟩,
 ⟨some 13, none, .ld1 (.tmp 12)⟩,
 ⟨some 14, none, .mov (.tmp 1)⟩,
 ⟨some 15, none, .iad 1 (.tmp 13) (.tmp 14)⟩,
 ⟨some 16, none, .ld1 (.tmp 15)⟩,
 ⟨some 17, none, .bin .lss (.tmp 9) (.tmp 16)⟩])
 (.cond (.tmp 17)
 .skip
 (.exit 0)))
 (.seq (.block 1 (.ops [⟨some 25, none, .mov (.tmp 5)⟩,
 ⟨some 26, none, .mov (.tmp 6)⟩,
 ⟨some 27, none, .lits [(.int .i64 0)] 1 [(0, 1, (.tmp 26))]⟩,
 ⟨some 28, none, .app 1 8 (.tmp 25) (.tmp 27)⟩,
 ⟨some 5, none, .mov (.tmp 28)⟩]))
 (.ops [⟨some 18, none, .mov (.tmp 0)⟩,
 ⟨some 19, none, .nilck (.tmp 18)⟩,
 ⟨some 20, none, .fad (.tmp 19) 1⟩,
 ⟨some 21, none, .ld1 (.tmp 20)⟩,
 ⟨some 22, none, .mov (.tmp 6)⟩,
 ⟨some 23, none, .iad 1 (.tmp 21) (.tmp 22)⟩,
 ⟨some 24, none, .ld1 (.tmp 23)⟩,
 ⟨some 6, none, .mov (.tmp 24)⟩]))))))
 (.seq (.ops [⟨some 29, none, .mov (.tmp 5)⟩,
 ⟨some 4, none, .mov (.tmp 29)⟩])
 .ret))))⟩
theorem ok68 : compF Tryz.prog Tryz.f68 = some c68 := by kernel_rfl
def c69 : CF := ⟨37, [.tmp 4],
 (.seq (.ops [⟨some 4, none, .mov (.const (.string ⟨#[]⟩))⟩])
 (.seq (.seq (.ops [⟨some 7, none, .mov (.tmp 0)⟩,
 ⟨some 8, none, .bin .eql (.tmp 7) (.const (.string ⟨#[]⟩))⟩,
 ⟨some 9, none, .mov (.tmp 8)⟩,
 ⟨some 10, (some (9, false)), .mov (.tmp 1)⟩,
 ⟨some 11, (some (9, false)), .bin .eql (.tmp 10) (.const (.string ⟨#[]⟩))⟩,
 ⟨some 12, none, .pick (.tmp 9) (.const (.bool true)) (.tmp 11)⟩])
 (.cond (.tmp 12)
 (.seq (.ops [⟨some 13, none, .mov (.tmp 0)⟩,
 ⟨some 4, none, .mov (.tmp 13)⟩])
 .ret)
 .skip))
 (.seq (.seq (.ops [⟨some 14, none, .mov (.tmp 1)⟩,
 ⟨some 15, none, .lns (.tmp 14)⟩,
 ⟨some 16, none, .bin .eql (.tmp 15) (.const (.int .i64 1))⟩,
 ⟨some 17, none, .mov (.tmp 16)⟩,
 ⟨some 18, (some (17, true)), .mov (.tmp 1)⟩,
 ⟨some 19, (some (17, true)), .ids (.tmp 18) (.const (.int .i64 0))⟩,
 ⟨some 20, (some (17, true)), .bin .lss (.tmp 19) (.const (.int .u8 128))⟩,
 ⟨some 21, none, .pick (.tmp 17) (.tmp 20) (.const (.bool false))⟩])
 (.cond (.tmp 21)
 (.seq (.ops [⟨some 22, none, .mov (.tmp 0)⟩,
 ⟨some 23, none, .mov (.tmp 1)⟩,
 ⟨some 24, none, .ids (.tmp 23) (.const (.int .i64 0))⟩,
 ⟨some 25, none, .call (.func 95) [(.tmp 22), (.tmp 24)]⟩,
 ⟨some 4, none, .mov (.tmp 25)⟩])
 .ret)
 .skip))
 (.seq (.seq (.ops [⟨some 27, none, .mov (.tmp 1)⟩,
 ⟨some 28, none, .call (.func 96) [(.tmp 27)]⟩,
 ⟨some 26, none, .mov (.tmp 28)⟩,
 ⟨some 29, none, .ext (.tmp 26) 0⟩,
 ⟨some 30, none, .ext (.tmp 26) 1⟩,
 ⟨some 5, none, .newz [(.bool false), (.bool false), (.bool false), (.bool false), (.bool false), (.bool false), (.bool false), (.bool false), (.bool false), (.bool false), (.bool false), (.bool false), (.bool false), (.bool false), (.bool false), (.bool false), (.bool false), (.bool false), (.bool false), (.bool false), (.bool false), (.bool false), (.bool false), (.bool false), (.bool false), (.bool false), (.bool false), (.bool false), (.bool false), (.bool false), (.bool false), (.bool false), (.bool false), (.bool false), (.bool false), (.bool false), (.bool false), (.bool false), (.bool false), (.bool false), (.bool false), (.bool false), (.bool false), (.bool false), (.bool false), (.bool false), (.bool false), (.bool false), (.bool false), (.bool false), (.bool false), (.bool false), (.bool false), (.bool false), (.bool false), (.bool false), (.bool false), (.bool false), (.bool false), (.bool false), (.bool false), (.bool false), (.bool false), (.bool false), (.bool false), (.bool false), (.bool false), (.bool false), (.bool false), (.bool false), (.bool false), (.bool false), (.bool false), (.bool false), (.bool false), (.bool false), (.bool false), (.bool false), (.bool false), (.bool false), (.bool false), (.bool false), (.bool false), (.bool false), (.bool false), (.bool false), (.bool false), (.bool false), (.bool false), (.bool false), (.bool false), (.bool false), (.bool false), (.bool false), (.bool false), (.bool false), (.bool false), (.bool false), (.bool false), (.bool false), (.bool false), (.bool false), (.bool false), (.bool false), (.bool false), (.bool false), (.bool false), (.bool false), (.bool false), (.bool false), (.bool false), (.bool false), (.bool false), (.bool false), (.bool false), (.bool false), (.bool false), (.bool false), (.bool false), (.bool false), (.bool false), (.bool false), (.bool false), (.bool false), (.bool false), (.bool false), (.bool false), (.bool false), (.bool false), (.bool false), (.bool false), (.bool false), (.bool false), (.bool false), (.bool false), (.bool false), (.bool false), (.bool false), (.bool false), (.bool false), (.bool false), (.bool false), (.bool false), (.bool false), (.bool false), (.bool false), (.bool false), (.bool false), (.bool false), (.bool false), (.bool false), (.bool false), (.bool false), (.bool false), (.bool false), (.bool false), (.bool false), (.bool false), (.bool false), (.bool false), (.bool false), (.bool false), (.bool false), (.bool false), (.bool false), (.bool false), (.bool false), (.bool false), (.bool false), (.bool false), (.bool false), (.bool false), (.bool false), (.bool false), (.bool false), (.bool false), (.bool false), (.bool false), (.bool false), (.bool false), (.bool false), (.bool false), (.bool false), (.bool false), (.bool false), (.bool false), (.bool false), (.bool false), (.bool false), (.bool false), (.bool false), (.bool false), (.bool false), (.bool false), (.bool false), (.bool false), (.bool false), (.bool false), (.bool false), (.bool false), (.bool false), (.bool false), (.bool false), (.bool false), (.bool false), (.bool false), (.bool false), (.bool false), (.bool false), (.bool false), (.bool false), (.bool false), (.bool false), (.bool false), (.bool false), (.bool false), (.bool false), (.bool false), (.bool false), (.bool false), (.bool false), (.bool false), (.bool false), (.bool false), (.bool false), (.bool false), (.bool false), (.bool false), (.bool false), (.bool false), (.bool false), (.bool false), (.bool false), (.bool false), (.bool false), (.bool false), (.bool false), (.bool false), (.bool false), (.bool false), (.bool false), (.bool false), (.bool false), (.bool false), (.bool false), (.bool false), (.bool false), (.bool false), (.bool false), (.bool false), (.bool false), (.bool false), (.bool false), (.bool false), (.bool false), (.bool false)]⟩,
 ⟨none, none, .st 256 (.tmp 5) (.tmp 29)⟩,
 ⟨some 6, none, .mov (.tmp 30)⟩])
 (.seq (.ops [⟨some 31, none, .mov (.tmp 6)⟩])
 (.cond (.tmp 31)
 (.seq (.ops [⟨some 32, none, .mov (.tmp 0)⟩,
 ⟨some 33, none, .call (.func 97) [(.tmp 32), (.tmp 5)]⟩,
 ⟨some 4, none, .mov (.tmp 33)⟩])
 .ret)
 .skip)))
 (.seq (.ops [⟨some 34, none, .mov (.tmp 0)⟩,
 ⟨some 35, none, .mov (.tmp 1)⟩,
 ⟨some 36, none, .call (.func 98) [(.tmp 34), (.tmp 35)]⟩,
 ⟨some 4, none, .mov (.tmp 36)⟩])
 .ret)))))⟩
theorem ok69 : compF Tryz.prog Tryz.f69 = some c69 := by kernel_rfl
def c70 : CF := ⟨8, [.tmp 4],
 (.seq (.ops [⟨some 4, none, .mov (.const (.string ⟨#[]⟩))⟩])
 (.seq (.ops [⟨some 5, none, .mov (.tmp 0)⟩,
 ⟨some 6, none, .mov (.tmp 1)⟩,
 ⟨some 7, none, .call (.func 99) [(.tmp 5), (.tmp 6)]⟩,
 ⟨some 4, none, .mov (.tmp 7)⟩])
 .ret))⟩
theorem ok70 : compF Tryz.prog Tryz.f70 = some c70 := by kernel_rfl
def c71 : CF := ⟨9, [.tmp 4],
 (.seq (.ops [⟨some 4, none, .mov (.const (.bool false))⟩])
 (.seq (.ops [⟨some 5, none, .mov (.tmp 0)⟩,
 ⟨some 6, none, .mov (.tmp 1)⟩,
 ⟨some 7, none, .call (.func 100) [(.tmp 5), (.tmp 6)]⟩,
 ⟨some 8, none, .bin .geq (.tmp 7) (.const (.int .i64 0))⟩,
 ⟨some 4, none, .mov (.tmp 8)⟩])
 .ret))⟩
theorem ok71 : compF Tryz.prog Tryz.f71 = some c71 := by kernel_rfl
def c72 : CF := ⟨8, [.tmp 4],
 (.seq (.ops [⟨some 4, none, .mov (.const (.bool false))⟩])
 (.seq (.ops [⟨some 5, none, .mov (.tmp 0)⟩,
 ⟨some 6, none, .mov (.tmp 1)⟩,
 ⟨some 7, none, .call (.func 101) [(.tmp 5), (.tmp 6)]⟩,
 ⟨some 4, none, .mov (.tmp 7)⟩])
 .ret))⟩
theorem ok72 : compF Tryz.prog Tryz.f72 = some c72 := by kernel_rfl
def c73 : CF := ⟨26, [.tmp 2, .tmp 3],
 (.seq (.ops [⟨some 2, none, .mov (.const (.slice none 0 0))⟩,
 ⟨some 3, none, .mov (.const (.int .i64 0))⟩])
 (.seq (.seq (.ops [⟨some 10, none, .mov (.tmp 0)⟩,
 ⟨some 11, none, .call (.func 102) [(.tmp 10)]⟩,
 ⟨some 9, none, .mov (.tmp 11)⟩,
 ⟨some 12, none, .ext (.tmp 9) 0⟩,
 ⟨some 13, none, .ext (.tmp 9) 1⟩,
 ⟨some 4, none, .mov (.tmp 12)⟩,
 ⟨some 5, none, .mov (.tmp 13)⟩])
 (.seq (.ops [⟨some 14, none, .mov (.tmp 5)⟩,
 ⟨some 15, none, .bin .neq (.tmp 14) (.const (.int .i64 0))⟩])
 (.cond (.tmp 15)
 (.seq (.ops [⟨some 16, none, .mov (.tmp 5)⟩,
 ⟨some 2, none, .mov (.const (.slice none 0 0))⟩,
 ⟨some 3, none, .mov (.tmp 16)⟩])
 .ret)
 .skip)))
 (.seq (.ops [⟨some 6, none, .newz [(.slice none 0 0)]⟩])
 (.seq (.seq (.ops [⟨some 17, none, .mov (.tmp 0)⟩,
 ⟨some 18, none, .call (.func 103) [(.tmp 17)]⟩])
 (.block 0 (.rangeF (.tmp 18) [19, 20]
 (.ops [⟨some 8, none, .mov (.tmp 20)⟩])
 (.block 1 (.ops [⟨some 21, none, .ld1 (.tmp 6)⟩,
 ⟨some 22, none, .mov (.tmp 8)⟩,
 ⟨some 23, none, .lits [(.int .i32 0)] 1 [(0, 1, (.tmp 22))]⟩,
 ⟨some 24, none, .app 1 4 (.tmp 21) (.tmp 23)⟩,
 ⟨none, none, .st 1 (.tmp 6) (.tmp 24)⟩])))))
 (.seq (.ops [⟨some 25, none, .ld1 (.tmp 6)⟩,
 ⟨some 2, none, .mov (.tmp 25)⟩,
 ⟨some 3, none, .mov (.const (.int .i64 0))⟩])
 .ret)))))⟩
theorem ok73 : compF Tryz.prog Tryz.f73 = some c73 := by kernel_rfl
def c74 : CF := ⟨42, [.tmp 2, .tmp 3],
 (.seq (.ops [⟨some 2, none, .mov (.const (.int .i64 0))⟩,
 ⟨some 3, none, .mov (.const (.int .i64 0))⟩])
 (.seq (.block 0 (.seq (.ops [⟨some 7, none, .mov (.tmp 0)⟩,
 ⟨some 8, none, .call (.func 104) [(.tmp 7)]⟩,
 ⟨some 9, none, .un .not (.tmp 8)⟩,
 ⟨some 6, none, .mov (.tmp 9)⟩])
 (.cond (.tmp 6)
 (.seq (.ops [⟨some 2, none, .mov (.const (.int .i64 0))⟩,
 ⟨some 3, none, .mov (.const (.int .i64 7))⟩])
 .ret)
 (.seq (.ops [⟨some 11, none, .mov (.tmp 0)⟩,
 ⟨some 12, none, .bin .geq (.tmp 11) (.const (.int .i32 48))⟩,
 ⟨some 13, none, .mov (.tmp 12)⟩,
 ⟨some 14, (some (13, true)), .mov (.tmp 0)⟩,
 ⟨some 15, (some (13, true)), .bin .leq (.tmp 14) (.const (.int .i32 57))⟩,
 ⟨some 16, none, .pick (.tmp 13) (.tmp 15) (.const (.bool false))⟩,
 ⟨some 10, none, .mov (.tmp 16)⟩])
 (.cond (.tmp 10)
 (.seq (.ops [⟨some 2, none, .mov (.const (.int .i64 7))⟩,
 ⟨some 3, none, .mov (.const (.int .i64 0))⟩])
 .ret)
 (.seq (.seq (.ops [⟨some 18, none, .mov (.tmp 0)⟩,
 ⟨some 19, none, .bin .geq (.tmp 18) (.const (.int .i32 97))⟩,
 ⟨some 20, none, .mov (.tmp 19)⟩,
 ⟨some 21, (some (20, true)), .mov (.tmp 0)⟩,
 ⟨some 22, (some (20, true)), .bin .leq (.tmp 21) (.const (.int .i32 122))⟩,
 ⟨some 23, none, .pick (.tmp 20) (.tmp 22) (.const (.bool false))⟩,
 ⟨some 17, none, .mov (.tmp 23)⟩])
 (.cond (.tmp 17)
 .skip
 (.seq (.ops [⟨some 24, none, .mov (.tmp 0)⟩,
 ⟨some 25, none, .bin .geq (.tmp 24) (.const (.int .i32 65))⟩,
 ⟨some 26, none, .mov (.tmp 25)⟩,
 ⟨some 27, (some (26, true)), .mov (.tmp 0)⟩,
 ⟨some 28, (some (26, true)), .bin .leq (.tmp 27) (.const (.int .i32 90))⟩,
 ⟨some 29, none, .pick (.tmp 26) (.tmp 28) (.const (.bool false))⟩,
 ⟨some 17, none, .mov (.tmp 29)⟩])
 (.cond (.tmp 17)
 .skip
 (.ops [⟨some 30, none, .mov (.tmp 0)⟩,
 ⟨some 31, none, .bin .gtr (.tmp 30) (.const (.int .i32 160))⟩,
 ⟨some 17, none, .mov (.tmp 31)⟩])))))
 (.cond (.tmp 17)
 (.seq (.ops [⟨some 2, none, .mov (.const (.int .i64 9))⟩,
 ⟨some 3, none, .mov (.const (.int .i64 0))⟩])
 .ret)
 .skip)))))))
 (.seq (.seq (.ops [⟨some 32, none, .call (.func 105) []⟩,
 ⟨some 33, none, .mov (.const (.int .i64 0))⟩])
 (.block 1 (.loop (.seq (.ops [⟨some 34, none, .bin .lss (.tmp 33) (.const (.int .i64 10))⟩])
 (.seq (.cond (.tmp 34)
 .skip
 (.exit 1))
 (.seq (.block 2 (.seq (.ops [⟨some 35, none, .mov (.tmp 33)⟩,
 ⟨some 36, none, .ida1 10 1 (.tmp 32) (.tmp 33)⟩,
 ⟨some 4, none, .mov (.tmp 35)⟩,
 ⟨some 5, none, .mov (.tmp 36)⟩])
 (.seq (.ops [⟨some 37, none, .mov (.tmp 5)⟩,
 ⟨some 38, none, .mov (.tmp 0)⟩,
 ⟨some 39, none, .call (.func 106) [(.tmp 37), (.tmp 38)]⟩])
 (.cond (.tmp 39)
 (.seq (.ops [⟨some 40, none, .mov (.tmp 4)⟩,
 ⟨some 2, none, .mov (.tmp 40)⟩,
 ⟨some 3, none, .mov (.const (.int .i64 0))⟩])
 .ret)
 .skip))))
 (.ops [⟨some 41, none, .bin .add (.tmp 33) (.const (.int .i64 1))⟩,
 ⟨some 33, none, .mov (.tmp 41)⟩])))))))
 (.seq (.ops [⟨some 2, none, .mov (.const (.int .i64 10))⟩,
 ⟨some 3, none, .mov (.const (.int .i64 0))⟩])
 .ret))))⟩
theorem ok74 : compF Tryz.prog Tryz.f74 = some c74 := by kernel_rfl
def c75 : CF := ⟨19, [],
 (.seq (.ops [⟨some 4, none, .ld1 (.tmp 1)⟩,
 ⟨some 5, none, .lnl (.tmp 4)⟩,
 ⟨some 6, none, .bin .sub (.tmp 5) (.const (.int .i64 1))⟩,
 ⟨some 3, none, .mov (.tmp 6)⟩])
 (.block 0 (.loop (.seq (.seq (.ops [⟨some 7, none, .mov (.tmp 3)⟩,
 ⟨some 8, none, .bin .geq (.tmp 7) (.const (.int .i64 0))⟩])
 (.cond (.tmp 8)
 .skip
 (.exit 0)))
 (.seq (.block 1 (.seq (.ops [⟨some 11, none, .mov (.tmp 0)⟩,
 ⟨some 12, none, .mov (.tmp 3)⟩,
 ⟨some 13, none, .ld1 (.tmp 1)⟩,
 ⟨some 14, none, .mov (.tmp 3)⟩,
 ⟨some 15, none, .iad 1 (.tmp 13) (.tmp 14)⟩,
 ⟨some 16, none, .ld1 (.tmp 15)⟩,
 ⟨some 17, none, .call (.tmp 11) [(.tmp 12), (.tmp 16)]⟩,
 ⟨some 18, none, .un .not (.tmp 17)⟩])
 (.cond (.tmp 18)
 .ret
 .skip)))
 (.ops [⟨some 9, none, .mov (.tmp 3)⟩,
 ⟨some 10, none, .bin .sub (.tmp 9) (.const (.int .i64 1))⟩,
 ⟨some 3, none, .mov (.tmp 10)⟩]))))))⟩
theorem ok75 : compF Tryz.prog Tryz.f75 = some c75 := by kernel_rfl
def c76 : CF := ⟨49, [],
 (.seq (.ops [⟨some 8, none, .mov (.tmp 1)⟩,
 ⟨some 9, none, .bin .add (.tmp 8) (.const (.int .i64 1))⟩,
 ⟨some 6, none, .mov (.tmp 9)⟩])
 (.block 0 (.loop (.seq (.seq (.ops [⟨some 10, none, .mov (.tmp 6)⟩,
 ⟨some 11, none, .mov (.tmp 2)⟩,
 ⟨some 12, none, .bin .lss (.tmp 10) (.tmp 11)⟩])
 (.cond (.tmp 12)
 .skip
 (.exit 0)))
 (.seq (.block 1 (.seq (.ops [⟨some 15, none, .mov (.tmp 6)⟩,
 ⟨some 7, none, .mov (.tmp 15)⟩])
 (.block 2 (.loop (.seq (.seq (.draw [⟨some 16, none, .mov (.tmp 7)⟩,
 ⟨some 17, none, .mov (.tmp 1)⟩,
 ⟨some 18, none, .bin .gtr (.tmp 16) (.tmp 17)⟩,
 ⟨some 19, none, .mov (.tmp 18)⟩,
 ⟨some 20, (some (19, true)), .mov (.tmp 0)⟩,
 ⟨some 21, (some (19, true)), .mov (.tmp 7)⟩,
 ⟨some 22, (some (19, true)), .iad 1 (.tmp 20) (.tmp 21)⟩,
 ⟨some 23, (some (19, true)), .ld1 (.tmp 22)⟩,
 ⟨some 24, (some (19, true)), .mov (.tmp 0)⟩,
 ⟨some 25, (some (19, true)), .mov (.tmp 7)⟩,
 ⟨some 26, (some (19, true)), .bin .sub (.tmp 25) (.const (.int .i64 1))⟩,
 ⟨some 27, (some (19, true)), .iad 1 (.tmp 24) (.tmp 26)⟩,
 ⟨some 28, (some (19, true)), .ld1 (.tmp 27)⟩,
 ⟨some 29, (some (19, true)), .call (.func 82) [(.tmp 23), (.tmp 28)]⟩,
 ⟨some 30, none, .pick (.tmp 19) (.tmp 29) (.const (.bool false))⟩] [(0, 1), (4, 5), (4, 8), (5, 8), (6, 8), (7, 8), (4, 9), (5, 9), (6, 9), (7, 9), (8, 9), (4, 10), (5, 10), (6, 10), (7, 10), (8, 10), (4, 11), (5, 11), (6, 11), (7, 11), (4, 12), (5, 12), (6, 12), (7, 12)])
 (.cond (.tmp 30)
 .skip
 (.exit 2)))
 (.seq (.block 3 (.draw [⟨some 33, none, .mov (.tmp 0)⟩,
 ⟨some 34, none, .mov (.tmp 7)⟩,
 ⟨some 35, none, .mov (.tmp 0)⟩,
 ⟨some 36, none, .mov (.tmp 7)⟩,
 ⟨some 37, none, .bin .sub (.tmp 36) (.const (.int .i64 1))⟩,
 ⟨some 38, none, .mov (.tmp 0)⟩,
 ⟨some 39, none, .mov (.tmp 7)⟩,
 ⟨some 40, none, .bin .sub (.tmp 39) (.const (.int .i64 1))⟩,
 ⟨some 41, none, .iad 1 (.tmp 38) (.tmp 40)⟩,
 ⟨some 42, none, .ld1 (.tmp 41)⟩,
 ⟨some 43, none, .mov (.tmp 0)⟩,
 ⟨some 44, none, .mov (.tmp 7)⟩,
 ⟨some 45, none, .iad 1 (.tmp 43) (.tmp 44)⟩,
 ⟨some 46, none, .ld1 (.tmp 45)⟩,
 ⟨some 47, none, .iad 1 (.tmp 33) (.tmp 34)⟩,
 ⟨none, none, .st 1 (.tmp 47) (.tmp 42)⟩,
 ⟨some 48, none, .iad 1 (.tmp 35) (.tmp 37)⟩,
 ⟨none, none, .st 1 (.tmp 48) (.tmp 46)⟩] [(0, 1), (0, 2), (1, 2), (0, 3), (1, 3), (2, 3), (0, 4), (1, 4), (2, 4), (0, 5), (1, 5), (2, 5), (3, 5), (4, 5), (0, 6), (1, 6), (2, 6), (3, 6), (4, 6), (5, 6), (0, 7), (1, 7), (2, 7), (3, 7), (4, 7), (5, 7), (0, 8), (1, 8), (2, 8), (3, 8), (4, 8), (0, 9), (1, 9), (2, 9), (3, 9), (4, 9), (0, 10), (1, 10), (2, 10), (3, 10), (4, 10), (5, 10), (6, 10), (7, 10), (8, 10), (9, 10), (0, 11), (1, 11), (2, 11), (3, 11), (4, 11), (5, 11), (6, 11), (7, 11), (8, 11), (9, 11), (10, 11), (0, 12), (1, 12), (2, 12), (3, 12), (4, 12), (5, 12), (6, 12), (7, 12), (8, 12), (9, 12), (0, 13), (1, 13), (2, 13), (3, 13), (4, 13), (5, 13), (6, 13), (7, 13), (8, 13), (9, 13), (2, 14), (3, 14), (4, 14), (2, 15), (3, 15), (4, 15)]))
 (.ops [⟨some 31, none, .mov (.tmp 7)⟩,
 ⟨some 32, none, .bin .sub (.tmp 31) (.const (.int .i64 1))⟩,
 ⟨some 7, none, .mov (.tmp 32)⟩])))))))
 (.ops [⟨some 13, none, .mov (.tmp 6)⟩,
 ⟨some 14, none, .bin .add (.tmp 13) (.const (.int .i64 1))⟩,
 ⟨some 6, none, .mov (.tmp 14)⟩]))))))⟩
theorem ok76 : compF Tryz.prog Tryz.f76 = some c76 := by kernel_rfl
def c77 : CF := ⟨56, [],
 (.seq (.ops [⟨some 11, none, .mov (.tmp 1)⟩,
 ⟨some 6, none, .mov (.tmp 11)⟩])
 (.seq (.ops [⟨some 7, none, .mov (.const (.int .i64 0))⟩])
 (.seq (.ops [⟨some 12, none, .mov (.tmp 2)⟩,
 ⟨some 13, none, .mov (.tmp 1)⟩,
 ⟨some 14, none, .bin .sub (.tmp 12) (.tmp 13)⟩,
 ⟨some 8, none, .mov (.tmp 14)⟩])
 (.seq (.seq (.ops [⟨some 15, none, .mov (.tmp 8)⟩,
 ⟨some 16, none, .bin .sub (.tmp 15) (.const (.int .i64 1))⟩,
 ⟨some 17, none, .bin .quo (.tmp 16) (.const (.int .i64 2))⟩,
 ⟨some 9, none, .mov (.tmp 17)⟩])
 (.block 0 (.loop (.seq (.seq (.ops [⟨some 18, none, .mov (.tmp 9)⟩,
 ⟨some 19, none, .bin .geq (.tmp 18) (.const (.int .i64 0))⟩])
 (.cond (.tmp 19)
 .skip
 (.exit 0)))
 (.seq (.block 1 (.ops [⟨some 22, none, .mov (.tmp 0)⟩,
 ⟨some 23, none, .mov (.tmp 9)⟩,
 ⟨some 24, none, .mov (.tmp 8)⟩,
 ⟨some 25, none, .mov (.tmp 6)⟩,
 ⟨some 26, none, .call (.func 107) [(.tmp 22), (.tmp 23), (.tmp 24), (.tmp 25)]⟩]))
 (.ops [⟨some 20, none, .mov (.tmp 9)⟩,
 ⟨some 21, none, .bin .sub (.tmp 20) (.const (.int .i64 1))⟩,
 ⟨some 9, none, .mov (.tmp 21)⟩]))))))
 (.seq (.ops [⟨some 27, none, .mov (.tmp 8)⟩,
 ⟨some 28, none, .bin .sub (.tmp 27) (.const (.int .i64 1))⟩,
 ⟨some 10, none, .mov (.tmp 28)⟩])
 (.block 2 (.loop (.seq (.seq (.ops [⟨some 29, none, .mov (.tmp 10)⟩,
 ⟨some 30, none, .bin .geq (.tmp 29) (.const (.int .i64 0))⟩])
 (.cond (.tmp 30)
 .skip
 (.exit 2)))
 (.seq (.block 3 (.seq (.draw [⟨some 33, none, .mov (.tmp 0)⟩,
 ⟨some 34, none, .mov (.tmp 6)⟩,
 ⟨some 35, none, .mov (.tmp 0)⟩,
 ⟨some 36, none, .mov (.tmp 6)⟩,
 ⟨some 37, none, .mov (.tmp 10)⟩,
 ⟨some 38, none, .bin .add (.tmp 36) (.tmp 37)⟩,
 ⟨some 39, none, .mov (.tmp 0)⟩,
 ⟨some 40, none, .mov (.tmp 6)⟩,
 ⟨some 41, none, .mov (.tmp 10)⟩,
 ⟨some 42, none, .bin .add (.tmp 40) (.tmp 41)⟩,
 ⟨some 43, none, .iad 1 (.tmp 39) (.tmp 42)⟩,
 ⟨some 44, none, .ld1 (.tmp 43)⟩,
 ⟨some 45, none, .mov (.tmp 0)⟩,
 ⟨some 46, none, .mov (.tmp 6)⟩,
 ⟨some 47, none, .iad 1 (.tmp 45) (.tmp 46)⟩,
 ⟨some 48, none, .ld1 (.tmp 47)⟩,
 ⟨some 49, none, .iad 1 (.tmp 33) (.tmp 34)⟩,
 ⟨none, none, .st 1 (.tmp 49) (.tmp 44)⟩,
 ⟨some 50, none, .iad 1 (.tmp 35) (.tmp 38)⟩,
 ⟨none, none, .st 1 (.tmp 50) (.tmp 48)⟩] [(0, 1), (0, 2), (1, 2), (0, 3), (1, 3), (2, 3), (0, 4), (1, 4), (2, 4), (3, 4), (0, 5), (1, 5), (2, 5), (0, 6), (1, 6), (2, 6), (3, 6), (4, 6), (5, 6), (0, 7), (1, 7), (2, 7), (3, 7), (4, 7), (5, 7), (6, 7), (0, 8), (1, 8), (2, 8), (3, 8), (4, 8), (5, 8), (6, 8), (7, 8), (0, 9), (1, 9), (2, 9), (3, 9), (4, 9), (5, 9), (6, 9), (0, 10), (1, 10), (2, 10), (3, 10), (4, 10), (5, 10), (0, 11), (1, 11), (2, 11), (3, 11), (4, 11), (5, 11), (0, 12), (1, 12), (2, 12), (3, 12), (4, 12), (5, 12), (6, 12), (7, 12), (8, 12), (9, 12), (10, 12), (11, 12), (0, 13), (1, 13), (2, 13), (3, 13), (4, 13), (5, 13), (6, 13), (7, 13), (8, 13), (9, 13), (10, 13), (11, 13), (12, 13), (0, 14), (1, 14), (2, 14), (3, 14), (4, 14), (5, 14), (6, 14), (7, 14), (8, 14), (9, 14), (10, 14), (11, 14), (0, 15), (1, 15), (2, 15), (3, 15), (4, 15), (5, 15), (6, 15), (7, 15), (8, 15), (9, 15), (10, 15), (11, 15), (2, 16), (3, 16), (4, 16), (5, 16), (2, 17), (3, 17), (4, 17), (5, 17)])
 (.ops [⟨some 51, none, .mov (.tmp 0)⟩,
 ⟨some 52, none, .mov (.tmp 7)⟩,
 ⟨some 53, none, .mov (.tmp 10)⟩,
 ⟨some 54, none, .mov (.tmp 6)⟩,
 ⟨some 55, none, .call (.func 107) [(.tmp 51), (.tmp 52), (.tmp 53), (.tmp 54)]⟩])))
 (.ops [⟨some 31, none, .mov (.tmp 10)⟩,
 ⟨some 32, none, .bin .sub (.tmp 31) (.const (.int .i64 1))⟩,
 ⟨some 10, none, .mov (.tmp 32)⟩]))))))))))⟩
theorem ok77 : compF Tryz.prog Tryz.f77 = some c77 := by kernel_rfl
def c78 : CF := ⟨65, [],
 (.seq (.ops [⟨some 11, none, .mov (.tmp 2)⟩,
 ⟨some 12, none, .mov (.tmp 1)⟩,
 ⟨some 13, none, .bin .sub (.tmp 11) (.tmp 12)⟩,
 ⟨some 6, none, .mov (.tmp 13)⟩])
 (.seq (.ops [⟨some 14, none, .mov (.tmp 6)⟩,
 ⟨some 15, none, .bin .geq (.tmp 14) (.const (.int .i64 8))⟩])
 (.cond (.tmp 15)
 (.seq (.ops [⟨some 16, none, .mov (.tmp 6)⟩,
 ⟨some 17, none, .cvi .u64 (.tmp 16)⟩,
 ⟨some 7, none, .newz [(.int .u64 0)]⟩,
 ⟨none, none, .st 1 (.tmp 7) (.tmp 17)⟩])
 (.seq (.ops [⟨some 18, none, .mov (.tmp 6)⟩,
 ⟨some 19, none, .call (.func 108) [(.tmp 18)]⟩,
 ⟨some 8, none, .mov (.tmp 19)⟩])
 (.seq (.ops [⟨some 20, none, .mov (.tmp 1)⟩,
 ⟨some 21, none, .mov (.tmp 6)⟩,
 ⟨some 22, none, .bin .quo (.tmp 21) (.const (.int .i64 4))⟩,
 ⟨some 23, none, .bin .mul (.tmp 22) (.const (.int .i64 2))⟩,
 ⟨some 24, none, .bin .add (.tmp 20) (.tmp 23)⟩,
 ⟨some 25, none, .bin .sub (.tmp 24) (.const (.int .i64 1))⟩,
 ⟨some 9, none, .mov (.tmp 25)⟩])
 (.block 0 (.loop (.seq (.seq (.ops [⟨some 26, none, .mov (.tmp 9)⟩,
 ⟨some 27, none, .mov (.tmp 1)⟩,
 ⟨some 28, none, .mov (.tmp 6)⟩,
 ⟨some 29, none, .bin .quo (.tmp 28) (.const (.int .i64 4))⟩,
 ⟨some 30, none, .bin .mul (.tmp 29) (.const (.int .i64 2))⟩,
 ⟨some 31, none, .bin .add (.tmp 27) (.tmp 30)⟩,
 ⟨some 32, none, .bin .add (.tmp 31) (.const (.int .i64 1))⟩,
 ⟨some 33, none, .bin .leq (.tmp 26) (.tmp 32)⟩])
 (.cond (.tmp 33)
 .skip
 (.exit 0)))
 (.seq (.block 1 (.seq (.ops [⟨some 36, none, .call (.func 109) [(.tmp 7)]⟩,
 ⟨some 37, none, .mov (.tmp 8)⟩,
 ⟨some 38, none, .bin .sub (.tmp 37) (.const (.int .u64 1))⟩,
 ⟨some 39, none, .bin .and (.tmp 36) (.tmp 38)⟩,
 ⟨some 40, none, .cvi .i64 (.tmp 39)⟩,
 ⟨some 10, none, .mov (.tmp 40)⟩])
 (.seq (.seq (.ops [⟨some 41, none, .mov (.tmp 10)⟩,
 ⟨some 42, none, .mov (.tmp 6)⟩,
 ⟨some 43, none, .bin .geq (.tmp 41) (.tmp 42)⟩])
 (.cond (.tmp 43)
 (.ops [⟨some 44, none, .mov (.tmp 10)⟩,
 ⟨some 45, none, .mov (.tmp 6)⟩,
 ⟨some 46, none, .bin .sub (.tmp 44) (.tmp 45)⟩,
 ⟨some 10, none, .mov (.tmp 46)⟩])
 .skip))
 (.draw [⟨some 47, none, .mov (.tmp 0)⟩,
 ⟨some 48, none, .mov (.tmp 9)⟩,
 ⟨some 49, none, .mov (.tmp 0)⟩,
 ⟨some 50, none, .mov (.tmp 1)⟩,
 ⟨some 51, none, .mov (.tmp 10)⟩,
 ⟨some 52, none, .bin .add (.tmp 50) (.tmp 51)⟩,
 ⟨some 53, none, .mov (.tmp 0)⟩,
 ⟨some 54, none, .mov (.tmp 1)⟩,
 ⟨some 55, none, .mov (.tmp 10)⟩,
 ⟨some 56, none, .bin .add (.tmp 54) (.tmp 55)⟩,
 ⟨some 57, none, .iad 1 (.tmp 53) (.tmp 56)⟩,
 ⟨some 58, none, .ld1 (.tmp 57)⟩,
 ⟨some 59, none, .mov (.tmp 0)⟩,
 ⟨some 60, none, .mov (.tmp 9)⟩,
 ⟨some 61, none, .iad 1 (.tmp 59) (.tmp 60)⟩,
 ⟨some 62, none, .ld1 (.tmp 61)⟩,
 ⟨some 63, none, .iad 1 (.tmp 47) (.tmp 48)⟩,
 ⟨none, none, .st 1 (.tmp 63) (.tmp 58)⟩,
 ⟨some 64, none, .iad 1 (.tmp 49) (.tmp 52)⟩,
 ⟨none, none, .st 1 (.tmp 64) (.tmp 62)⟩] [(0, 1), (0, 2), (1, 2), (0, 3), (1, 3), (2, 3), (0, 4), (1, 4), (2, 4), (3, 4), (0, 5), (1, 5), (2, 5), (0, 6), (1, 6), (2, 6), (3, 6), (4, 6), (5, 6), (0, 7), (1, 7), (2, 7), (3, 7), (4, 7), (5, 7), (6, 7), (0, 8), (1, 8), (2, 8), (3, 8), (4, 8), (5, 8), (6, 8), (7, 8), (0, 9), (1, 9), (2, 9), (3, 9), (4, 9), (5, 9), (6, 9), (0, 10), (1, 10), (2, 10), (3, 10), (4, 10), (5, 10), (0, 11), (1, 11), (2, 11), (3, 11), (4, 11), (5, 11), (0, 12), (1, 12), (2, 12), (3, 12), (4, 12), (5, 12), (6, 12), (7, 12), (8, 12), (9, 12), (10, 12), (11, 12), (0, 13), (1, 13), (2, 13), (3, 13), (4, 13), (5, 13), (6, 13), (7, 13), (8, 13), (9, 13), (10, 13), (11, 13), (12, 13), (0, 14), (1, 14), (2, 14), (3, 14), (4, 14), (5, 14), (6, 14), (7, 14), (8, 14), (9, 14), (10, 14), (11, 14), (0, 15), (1, 15), (2, 15), (3, 15), (4, 15), (5, 15), (6, 15), (7, 15), (8, 15), (9, 15), (10, 15), (11, 15), (2, 16), (3, 16), (4, 16), (5, 16), (2, 17), (3, 17), (4, 17), (5, 17)]))))
 (.ops [⟨some 34, none, .mov (.tmp 9)⟩,
 ⟨some 35, none, .bin .add (.tmp 34) (.const (.int .i64 1))⟩,
 ⟨some 9, none, .mov (.tmp 35)⟩]))))))))
 .skip)))⟩
theorem ok78 : compF Tryz.prog Tryz.f78 = some c78 := by kernel_rfl
def c79 : CF := ⟨57, [.tmp 6, .tmp 7],
 (.seq (.ops [⟨some 6, none, .mov (.const (.int .i64 0))⟩,
 ⟨some 7, none, .mov (.const (.int .i64 0))⟩])
 (.seq (.ops [⟨some 13, none, .mov (.tmp 2)⟩,
 ⟨some 14, none, .mov (.tmp 1)⟩,
 ⟨some 15, none, .bin .sub (.tmp 13) (.tmp 14)⟩,
 ⟨some 8, none, .mov (.tmp 15)⟩])
 (.seq (.ops [⟨some 9, none, .newz [(.int .i64 0)]⟩])
 (.seq (.ops [⟨some 16, none, .mov (.tmp 1)⟩,
 ⟨some 17, none, .mov (.tmp 8)⟩,
 ⟨some 18, none, .bin .quo (.tmp 17) (.const (.int .i64 4))⟩,
 ⟨some 19, none, .bin .mul (.tmp 18) (.const (.int .i64 1))⟩,
 ⟨some 20, none, .bin .add (.tmp 16) (.tmp 19)⟩,
 ⟨some 10, none, .mov (.tmp 20)⟩])
 (.seq (.ops [⟨some 21, none, .mov (.tmp 1)⟩,
 ⟨some 22, none, .mov (.tmp 8)⟩,
 ⟨some 23, none, .bin .quo (.tmp 22) (.const (.int .i64 4))⟩,
 ⟨some 24, none, .bin .mul (.tmp 23) (.const (.int .i64 2))⟩,
 ⟨some 25, none, .bin .add (.tmp 21) (.tmp 24)⟩,
 ⟨some 11, none, .mov (.tmp 25)⟩])
 (.seq (.ops [⟨some 26, none, .mov (.tmp 1)⟩,
 ⟨some 27, none, .mov (.tmp 8)⟩,
 ⟨some 28, none, .bin .quo (.tmp 27) (.const (.int .i64 4))⟩,
 ⟨some 29, none, .bin .mul (.tmp 28) (.const (.int .i64 3))⟩,
 ⟨some 30, none, .bin .add (.tmp 26) (.tmp 29)⟩,
 ⟨some 12, none, .mov (.tmp 30)⟩])
 (.seq (.seq (.ops [⟨some 31, none, .mov (.tmp 8)⟩,
 ⟨some 32, none, .bin .geq (.tmp 31) (.const (.int .i64 8))⟩])
 (.cond (.tmp 32)
 (.seq (.seq (.ops [⟨some 33, none, .mov (.tmp 8)⟩,
 ⟨some 34, none, .bin .geq (.tmp 33) (.const (.int .i64 50))⟩])
 (.cond (.tmp 34)
 (.seq (.ops [⟨some 35, none, .mov (.tmp 0)⟩,
 ⟨some 36, none, .mov (.tmp 10)⟩,
 ⟨some 37, none, .call (.func 110) [(.tmp 35), (.tmp 36), (.tmp 9)]⟩,
 ⟨some 10, none, .mov (.tmp 37)⟩])
 (.seq (.ops [⟨some 38, none, .mov (.tmp 0)⟩,
 ⟨some 39, none, .mov (.tmp 11)⟩,
 ⟨some 40, none, .call (.func 110) [(.tmp 38), (.tmp 39), (.tmp 9)]⟩,
 ⟨some 11, none, .mov (.tmp 40)⟩])
 (.ops [⟨some 41, none, .mov (.tmp 0)⟩,
 ⟨some 42, none, .mov (.tmp 12)⟩,
 ⟨some 43, none, .call (.func 110) [(.tmp 41), (.tmp 42), (.tmp 9)]⟩,
 ⟨some 12, none, .mov (.tmp 43)⟩])))
 .skip))
 (.ops [⟨some 44, none, .mov (.tmp 0)⟩,
 ⟨some 45, none, .mov (.tmp 10)⟩,
 ⟨some 46, none, .mov (.tmp 11)⟩,
 ⟨some 47, none, .mov (.tmp 12)⟩,
 ⟨some 48, none, .call (.func 111) [(.tmp 44), (.tmp 45), (.tmp 46), (.tmp 47), (.tmp 9)]⟩,
 ⟨some 11, none, .mov (.tmp 48)⟩]))
 .skip))
 (.seq (.ops [⟨some 49, none, .ld1 (.tmp 9)⟩])
 (.block 0 (.seq (.ops [⟨some 52, none, .bin .eql (.tmp 49) (.const (.int .i64 0))⟩,
 ⟨some 51, none, .mov (.tmp 52)⟩])
 (.cond (.tmp 51)
 (.seq (.ops [⟨some 53, none, .mov (.tmp 11)⟩,
 ⟨some 6, none, .mov (.tmp 53)⟩,
 ⟨some 7, none, .mov (.const (.int .i64 1))⟩])
 .ret)
 (.seq (.ops [⟨some 55, none, .bin .eql (.tmp 49) (.const (.int .i64 12))⟩,
 ⟨some 54, none, .mov (.tmp 55)⟩])
 (.cond (.tmp 54)
 (.seq (.ops [⟨some 56, none, .mov (.tmp 11)⟩,
 ⟨some 6, none, .mov (.tmp 56)⟩,
 ⟨some 7, none, .mov (.const (.int .i64 2))⟩])
 .ret)
 (.seq (.ops [⟨some 50, none, .mov (.tmp 11)⟩,
 ⟨some 6, none, .mov (.tmp 50)⟩,
 ⟨some 7, none, .mov (.const (.int .i64 0))⟩])
 .ret))))))))))))))⟩
theorem ok79 : compF Tryz.prog Tryz.f79 = some c79 := by kernel_rfl
def c80 : CF := ⟨32, [],
 (.seq (.ops [⟨some 8, none, .mov (.tmp 1)⟩,
 ⟨some 6, none, .mov (.tmp 8)⟩])
 (.seq (.ops [⟨some 9, none, .mov (.tmp 2)⟩,
 ⟨some 10, none, .bin .sub (.tmp 9) (.const (.int .i64 1))⟩,
 ⟨some 7, none, .mov (.tmp 10)⟩])
 (.block 0 (.loop (.seq (.seq (.ops [⟨some 11, none, .mov (.tmp 6)⟩,
 ⟨some 12, none, .mov (.tmp 7)⟩,
 ⟨some 13, none, .bin .lss (.tmp 11) (.tmp 12)⟩])
 (.cond (.tmp 13)
 .skip
 (.exit 0)))
 (.block 1 (.seq (.draw [⟨some 14, none, .mov (.tmp 0)⟩,
 ⟨some 15, none, .mov (.tmp 6)⟩,
 ⟨some 16, none, .mov (.tmp 0)⟩,
 ⟨some 17, none, .mov (.tmp 7)⟩,
 ⟨some 18, none, .mov (.tmp 0)⟩,
 ⟨some 19, none, .mov (.tmp 7)⟩,
 ⟨some 20, none, .iad 1 (.tmp 18) (.tmp 19)⟩,
 ⟨some 21, none, .ld1 (.tmp 20)⟩,
 ⟨some 22, none, .mov (.tmp 0)⟩,
 ⟨some 23, none, .mov (.tmp 6)⟩,
 ⟨some 24, none, .iad 1 (.tmp 22) (.tmp 23)⟩,
 ⟨some 25, none, .ld1 (.tmp 24)⟩,
 ⟨some 26, none, .iad 1 (.tmp 14) (.tmp 15)⟩,
 ⟨none, none, .st 1 (.tmp 26) (.tmp 21)⟩,
 ⟨some 27, none, .iad 1 (.tmp 16) (.tmp 17)⟩,
 ⟨none, none, .st 1 (.tmp 27) (.tmp 25)⟩] [(0, 1), (0, 2), (1, 2), (0, 3), (1, 3), (2, 3), (0, 4), (1, 4), (2, 4), (3, 4), (0, 5), (1, 5), (2, 5), (3, 5), (4, 5), (0, 6), (1, 6), (2, 6), (3, 6), (0, 7), (1, 7), (2, 7), (3, 7), (0, 8), (1, 8), (2, 8), (3, 8), (4, 8), (5, 8), (6, 8), (7, 8), (0, 9), (1, 9), (2, 9), (3, 9), (4, 9), (5, 9), (6, 9), (7, 9), (8, 9), (0, 10), (1, 10), (2, 10), (3, 10), (4, 10), (5, 10), (6, 10), (7, 10), (0, 11), (1, 11), (2, 11), (3, 11), (4, 11), (5, 11), (6, 11), (7, 11), (2, 12), (3, 12), (2, 13), (3, 13)])
 (.seq (.ops [⟨some 28, none, .mov (.tmp 6)⟩,
 ⟨some 29, none, .bin .add (.tmp 28) (.const (.int .i64 1))⟩,
 ⟨some 6, none, .mov (.tmp 29)⟩])
 (.ops [⟨some 30, none, .mov (.tmp 7)⟩,
 ⟨some 31, none, .bin .sub (.tmp 30) (.const (.int .i64 1))⟩,
 ⟨some 7, none, .mov (.tmp 31)⟩])))))))))⟩
theorem ok80 : compF Tryz.prog Tryz.f80 = some c80 := by kernel_rfl
def c81 : CF := ⟨133, [.tmp 6],
 (.seq (.ops [⟨some 6, none, .mov (.const (.bool false))⟩])
 (.seq (.ops [⟨some 11, none, .mov (.tmp 1)⟩,
 ⟨some 12, none, .bin .add (.tmp 11) (.const (.int .i64 1))⟩,
 ⟨some 7, none, .mov (.tmp 12)⟩])
 (.seq (.seq (.ops [⟨some 8, none, .mov (.const (.int .i64 0))⟩])
 (.block 0 (.loop (.seq (.seq (.ops [⟨some 13, none, .mov (.tmp 8)⟩,
 ⟨some 14, none, .bin .lss (.tmp 13) (.const (.int .i64 5))⟩])
 (.cond (.tmp 14)
 .skip
 (.exit 0)))
 (.seq (.block 1 (.seq (.block 2 (.loop (.seq (.seq (.draw [⟨some 17, none, .mov (.tmp 7)⟩,
 ⟨some 18, none, .mov (.tmp 2)⟩,
 ⟨some 19, none, .bin .lss (.tmp 17) (.tmp 18)⟩,
 ⟨some 20, none, .mov (.tmp 19)⟩,
 ⟨some 21, (some (20, true)), .mov (.tmp 0)⟩,
 ⟨some 22, (some (20, true)), .mov (.tmp 7)⟩,
 ⟨some 23, (some (20, true)), .iad 1 (.tmp 21) (.tmp 22)⟩,
 ⟨some 24, (some (20, true)), .ld1 (.tmp 23)⟩,
 ⟨some 25, (some (20, true)), .mov (.tmp 0)⟩,
 ⟨some 26, (some (20, true)), .mov (.tmp 7)⟩,
 ⟨some 27, (some (20, true)), .bin .sub (.tmp 26) (.const (.int .i64 1))⟩,
 ⟨some 28, (some (20, true)), .iad 1 (.tmp 25) (.tmp 27)⟩,
 ⟨some 29, (some (20, true)), .ld1 (.tmp 28)⟩,
 ⟨some 30, (some (20, true)), .call (.func 82) [(.tmp 24), (.tmp 29)]⟩,
 ⟨some 31, (some (20, true)), .un .not (.tmp 30)⟩,
 ⟨some 32, none, .pick (.tmp 20) (.tmp 31) (.const (.bool false))⟩] [(0, 1), (4, 5), (4, 8), (5, 8), (6, 8), (7, 8), (4, 9), (5, 9), (6, 9), (7, 9), (8, 9), (4, 10), (5, 10), (6, 10), (7, 10), (8, 10), (4, 11), (5, 11), (6, 11), (7, 11), (4, 12), (5, 12), (6, 12), (7, 12)])
 (.cond (.tmp 32)
 .skip
 (.exit 2)))
 (.block 3 (.ops [⟨some 33, none, .mov (.tmp 7)⟩,
 ⟨some 34, none, .bin .add (.tmp 33) (.const (.int .i64 1))⟩,
 ⟨some 7, none, .mov (.tmp 34)⟩])))))
 (.seq (.seq (.ops [⟨some 35, none, .mov (.tmp 7)⟩,
 ⟨some 36, none, .mov (.tmp 2)⟩,
 ⟨some 37, none, .bin .eql (.tmp 35) (.tmp 36)⟩])
 (.cond (.tmp 37)
 (.seq (.ops [⟨some 6, none, .mov (.const (.bool true))⟩])
 .ret)
 .skip))
 (.seq (.seq (.ops [⟨some 38, none, .mov (.tmp 2)⟩,
 ⟨some 39, none, .mov (.tmp 1)⟩,
 ⟨some 40, none, .bin .sub (.tmp 38) (.tmp 39)⟩,
 ⟨some 41, none, .bin .lss (.tmp 40) (.const (.int .i64 50))⟩])
 (.cond (.tmp 41)
 (.seq (.ops [⟨some 6, none, .mov (.const (.bool false))⟩])
 .ret)
 .skip))
 (.seq (.draw [⟨some 42, none, .mov (.tmp 0)⟩,
 ⟨some 43, none, .mov (.tmp 7)⟩,
 ⟨some 44, none, .mov (.tmp 0)⟩,
 ⟨some 45, none, .mov (.tmp 7)⟩,
 ⟨some 46, none, .bin .sub (.tmp 45) (.const (.int .i64 1))⟩,
 ⟨some 47, none, .mov (.tmp 0)⟩,
 ⟨some 48, none, .mov (.tmp 7)⟩,
 ⟨some 49, none, .bin .sub (.tmp 48) (.const (.int .i64 1))⟩,
 ⟨some 50, none, .iad 1 (.tmp 47) (.tmp 49)⟩,
 ⟨some 51, none, .ld1 (.tmp 50)⟩,
 ⟨some 52, none, .mov (.tmp 0)⟩,
 ⟨some 53, none, .mov (.tmp 7)⟩,
 ⟨some 54, none, .iad 1 (.tmp 52) (.tmp 53)⟩,
 ⟨some 55, none, .ld1 (.tmp 54)⟩,
 ⟨some 56, none, .iad 1 (.tmp 42) (.tmp 43)⟩,
 ⟨none, none, .st 1 (.tmp 56) (.tmp 51)⟩,
 ⟨some 57, none, .iad 1 (.tmp 44) (.tmp 46)⟩,
 ⟨none, none, .st 1 (.tmp 57) (.tmp 55)⟩] [(0, 1), (0, 2), (1, 2), (0, 3), (1, 3), (2, 3), (0, 4), (1, 4), (2, 4), (0, 5), (1, 5), (2, 5), (3, 5), (4, 5), (0, 6), (1, 6), (2, 6), (3, 6), (4, 6), (5, 6), (0, 7), (1, 7), (2, 7), (3, 7), (4, 7), (5, 7), (0, 8), (1, 8), (2, 8), (3, 8), (4, 8), (0, 9), (1, 9), (2, 9), (3, 9), (4, 9), (0, 10), (1, 10), (2, 10), (3, 10), (4, 10), (5, 10), (6, 10), (7, 10), (8, 10), (9, 10), (0, 11), (1, 11), (2, 11), (3, 11), (4, 11), (5, 11), (6, 11), (7, 11), (8, 11), (9, 11), (10, 11), (0, 12), (1, 12), (2, 12), (3, 12), (4, 12), (5, 12), (6, 12), (7, 12), (8, 12), (9, 12), (0, 13), (1, 13), (2, 13), (3, 13), (4, 13), (5, 13), (6, 13), (7, 13), (8, 13), (9, 13), (2, 14), (3, 14), (4, 14), (2, 15), (3, 15), (4, 15)])
 (.seq (.seq (.ops [⟨some 58, none, .mov (.tmp 7)⟩,
 ⟨some 59, none, .mov (.tmp 1)⟩,
 ⟨some 60, none, .bin .sub (.tmp 58) (.tmp 59)⟩,
 ⟨some 61, none, .bin .geq (.tmp 60) (.const (.int .i64 2))⟩])
 (.cond (.tmp 61)
 (.seq (.ops [⟨some 62, none, .mov (.tmp 7)⟩,
 ⟨some 63, none, .bin .sub (.tmp 62) (.const (.int .i64 1))⟩,
 ⟨some 9, none, .mov (.tmp 63)⟩])
 (.block 4 (.loop (.seq (.seq (.ops [⟨some 64, none, .mov (.tmp 9)⟩,
 ⟨some 65, none, .bin .geq (.tmp 64) (.const (.int .i64 1))⟩])
 (.cond (.tmp 65)
 .skip
 (.exit 4)))
 (.seq (.block 5 (.seq (.seq (.draw [⟨some 68, none, .mov (.tmp 0)⟩,
 ⟨some 69, none, .mov (.tmp 9)⟩,
 ⟨some 70, none, .iad 1 (.tmp 68) (.tmp 69)⟩,
 ⟨some 71, none, .ld1 (.tmp 70)⟩,
 ⟨some 72, none, .mov (.tmp 0)⟩,
 ⟨some 73, none, .mov (.tmp 9)⟩,
 ⟨some 74, none, .bin .sub (.tmp 73) (.const (.int .i64 1))⟩,
 ⟨some 75, none, .iad 1 (.tmp 72) (.tmp 74)⟩,
 ⟨some 76, none, .ld1 (.tmp 75)⟩,
 ⟨some 77, none, .call (.func 82) [(.tmp 71), (.tmp 76)]⟩,
 ⟨some 78, none, .un .not (.tmp 77)⟩] [(0, 1), (0, 4), (1, 4), (2, 4), (3, 4), (0, 5), (1, 5), (2, 5), (3, 5), (4, 5), (0, 6), (1, 6), (2, 6), (3, 6), (4, 6), (0, 7), (1, 7), (2, 7), (3, 7), (0, 8), (1, 8), (2, 8), (3, 8)])
 (.cond (.tmp 78)
 (.exit 4)
 .skip))
 (.draw [⟨some 79, none, .mov (.tmp 0)⟩,
 ⟨some 80, none, .mov (.tmp 9)⟩,
 ⟨some 81, none, .mov (.tmp 0)⟩,
 ⟨some 82, none, .mov (.tmp 9)⟩,
 ⟨some 83, none, .bin .sub (.tmp 82) (.const (.int .i64 1))⟩,
 ⟨some 84, none, .mov (.tmp 0)⟩,
 ⟨some 85, none, .mov (.tmp 9)⟩,
 ⟨some 86, none, .bin .sub (.tmp 85) (.const (.int .i64 1))⟩,
 ⟨some 87, none, .iad 1 (.tmp 84) (.tmp 86)⟩,
 ⟨some 88, none, .ld1 (.tmp 87)⟩,
 ⟨some 89, none, .mov (.tmp 0)⟩,
 ⟨some 90, none, .mov (.tmp 9)⟩,
 ⟨some 91, none, .iad 1 (.tmp 89) (.tmp 90)⟩,
 ⟨some 92, none, .ld1 (.tmp 91)⟩,
 ⟨some 93, none, .iad 1 (.tmp 79) (.tmp 80)⟩,
 ⟨none, none, .st 1 (.tmp 93) (.tmp 88)⟩,
 ⟨some 94, none, .iad 1 (.tmp 81) (.tmp 83)⟩,
 ⟨none, none, .st 1 (.tmp 94) (.tmp 92)⟩] [(0, 1), (0, 2), (1, 2), (0, 3), (1, 3), (2, 3), (0, 4), (1, 4), (2, 4), (0, 5), (1, 5), (2, 5), (3, 5), (4, 5), (0, 6), (1, 6), (2, 6), (3, 6), (4, 6), (5, 6), (0, 7), (1, 7), (2, 7), (3, 7), (4, 7), (5, 7), (0, 8), (1, 8), (2, 8), (3, 8), (4, 8), (0, 9), (1, 9), (2, 9), (3, 9), (4, 9), (0, 10), (1, 10), (2, 10), (3, 10), (4, 10), (5, 10), (6, 10), (7, 10), (8, 10), (9, 10), (0, 11), (1, 11), (2, 11), (3, 11), (4, 11), (5, 11), (6, 11), (7, 11), (8, 11), (9, 11), (10, 11), (0, 12), (1, 12), (2, 12), (3, 12), (4, 12), (5, 12), (6, 12), (7, 12), (8, 12), (9, 12), (0, 13), (1, 13), (2, 13), (3, 13), (4, 13), (5, 13), (6, 13), (7, 13), (8, 13), (9, 13), (2, 14), (3, 14), (4, 14), (2, 15), (3, 15), (4, 15)])))
 (.ops [⟨some 66, none, .mov (.tmp 9)⟩,
 ⟨some 67, none, .bin .sub (.tmp 66) (.const (.int .i64 1))⟩,
 ⟨some 9, none, .mov (.tmp 67)⟩]))))))
 .skip))
 (.seq (.ops [⟨some 95, none, .mov (.tmp 2)⟩,
 ⟨some 96, none, .mov (.tmp 7)⟩,
 ⟨some 97, none, .bin .sub (.tmp 95) (.tmp 96)⟩,
 ⟨some 98, none, .bin .geq (.tmp 97) (.const (.int .i64 2))⟩])
 (.cond (.tmp 98)
 (.seq (.ops [⟨some 99, none, .mov (.tmp 7)⟩,
 ⟨some 100, none, .bin .add (.tmp 99) (.const (.int .i64 1))⟩,
 ⟨some 10, none, .mov (.tmp 100)⟩])
 (.block 6 (.loop (.seq (.seq (.ops [⟨some 101, none, .mov (.tmp 10)⟩,
 ⟨some 102, none, .mov (.tmp 2)⟩,
 ⟨some 103, none, .bin .lss (.tmp 101) (.tmp 102)⟩])
 (.cond (.tmp 103)
 .skip
 (.exit 6)))
 (.seq (.block 7 (.seq (.seq (.draw [⟨some 106, none, .mov (.tmp 0)⟩,
 ⟨some 107, none, .mov (.tmp 10)⟩,
 ⟨some 108, none, .iad 1 (.tmp 106) (.tmp 107)⟩,
 ⟨some 109, none, .ld1 (.tmp 108)⟩,
 ⟨some 110, none, .mov (.tmp 0)⟩,
 ⟨some 111, none, .mov (.tmp 10)⟩,
 ⟨some 112, none, .bin .sub (.tmp 111) (.const (.int .i64 1))⟩,
 ⟨some 113, none, .iad 1 (.tmp 110) (.tmp 112)⟩,
 ⟨some 114, none, .ld1 (.tmp 113)⟩,
 ⟨some 115, none, .call (.func 82) [(.tmp 109), (.tmp 114)]⟩,
 ⟨some 116, none, .un .not (.tmp 115)⟩] [(0, 1), (0, 4), (1, 4), (2, 4), (3, 4), (0, 5), (1, 5), (2, 5), (3, 5), (4, 5), (0, 6), (1, 6), (2, 6), (3, 6), (4, 6), (0, 7), (1, 7), (2, 7), (3, 7), (0, 8), (1, 8), (2, 8), (3, 8)])
 (.cond (.tmp 116)
 (.exit 6)
 .skip))
 (.draw [⟨some 117, none, .mov (.tmp 0)⟩,
 ⟨some 118, none, .mov (.tmp 10)⟩,
 ⟨some 119, none, .mov (.tmp 0)⟩,
 ⟨some 120, none, .mov (.tmp 10)⟩,
 ⟨some 121, none, .bin .sub (.tmp 120) (.const (.int .i64 1))⟩,
 ⟨some 122, none, .mov (.tmp 0)⟩,
 ⟨some 123, none, .mov (.tmp 10)⟩,
 ⟨some 124, none, .bin .sub (.tmp 123) (.const (.int .i64 1))⟩,
 ⟨some 125, none, .iad 1 (.tmp 122) (.tmp 124)⟩,
 ⟨some 126, none, .ld1 (.tmp 125)⟩,
 ⟨some 127, none, .mov (.tmp 0)⟩,
 ⟨some 128, none, .mov (.tmp 10)⟩,
 ⟨some 129, none, .iad 1 (.tmp 127) (.tmp 128)⟩,
 ⟨some 130, none, .ld1 (.tmp 129)⟩,
 ⟨some 131, none, .iad 1 (.tmp 117) (.tmp 118)⟩,
 ⟨none, none, .st 1 (.tmp 131) (.tmp 126)⟩,
 ⟨some 132, none, .iad 1 (.tmp 119) (.tmp 121)⟩,
 ⟨none, none, .st 1 (.tmp 132) (.tmp 130)⟩] [(0, 1), (0, 2), (1, 2), (0, 3), (1, 3), (2, 3), (0, 4), (1, 4), (2, 4), (0, 5), (1, 5), (2, 5), (3, 5), (4, 5), (0, 6), (1, 6), (2, 6), (3, 6), (4, 6), (5, 6), (0, 7), (1, 7), (2, 7), (3, 7), (4, 7), (5, 7), (0, 8), (1, 8), (2, 8), (3, 8), (4, 8), (0, 9), (1, 9), (2, 9), (3, 9), (4, 9), (0, 10), (1, 10), (2, 10), (3, 10), (4, 10), (5, 10), (6, 10), (7, 10), (8, 10), (9, 10), (0, 11), (1, 11), (2, 11), (3, 11), (4, 11), (5, 11), (6, 11), (7, 11), (8, 11), (9, 11), (10, 11), (0, 12), (1, 12), (2, 12), (3, 12), (4, 12), (5, 12), (6, 12), (7, 12), (8, 12), (9, 12), (0, 13), (1, 13), (2, 13), (3, 13), (4, 13), (5, 13), (6, 13), (7, 13), (8, 13), (9, 13), (2, 14), (3, 14), (4, 14), (2, 15), (3, 15), (4, 15)])))
 (.ops [⟨some 104, none, .mov (.tmp 10)⟩,
 ⟨some 105, none, .bin .add (.tmp 104) (.const (.int .i64 1))⟩,
 ⟨some 10, none, .mov (.tmp 105)⟩]))))))
 .skip))))))))
 (.ops [⟨some 15, none, .mov (.tmp 8)⟩,
 ⟨some 16, none, .bin .add (.tmp 15) (.const (.int .i64 1))⟩,
 ⟨some 8, none, .mov (.tmp 16)⟩]))))))
 (.seq (.ops [⟨some 6, none, .mov (.const (.bool false))⟩])
 .ret))))⟩
theorem ok81 : compF Tryz.prog Tryz.f81 = some c81 := by kernel_rfl
def c82 : CF := ⟨17, [.tmp 4],
 (.seq (.ops [⟨some 4, none, .mov (.const (.bool false))⟩])
 (.seq (.ops [⟨some 5, none, .mov (.tmp 0)⟩,
 ⟨some 6, none, .call (.func 112) [(.tmp 5)]⟩,
 ⟨some 7, none, .mov (.tmp 6)⟩,
 ⟨some 8, (some (7, true)), .mov (.tmp 1)⟩,
 ⟨some 9, (some (7, true)), .call (.func 112) [(.tmp 8)]⟩,
 ⟨some 10, (some (7, true)), .un .not (.tmp 9)⟩,
 ⟨some 11, none, .pick (.tmp 7) (.tmp 10) (.const (.bool false))⟩,
 ⟨some 12, none, .mov (.tmp 11)⟩,
 ⟨some 13, (some (12, false)), .mov (.tmp 0)⟩,
 ⟨some 14, (some (12, false)), .mov (.tmp 1)⟩,
 ⟨some 15, (some (12, false)), .bin .lss (.tmp 13) (.tmp 14)⟩,
 ⟨some 16, none, .pick (.tmp 12) (.const (.bool true)) (.tmp 15)⟩,
 ⟨some 4, none, .mov (.tmp 16)⟩])
 .ret))⟩
theorem ok82 : compF Tryz.prog Tryz.f82 = some c82 := by kernel_rfl
def c83 : CF := ⟨84, [.tmp 8],
 (.seq (.ops [⟨some 8, none, .mov (.const (.int .i64 0))⟩])
 (.seq (.draw [⟨some 11, none, .mov (.tmp 0)⟩,
 ⟨some 12, none, .mov (.tmp 1)⟩,
 ⟨some 13, none, .mov (.tmp 0)⟩,
 ⟨some 14, none, .mov (.tmp 3)⟩,
 ⟨some 15, none, .mov (.tmp 0)⟩,
 ⟨some 16, none, .mov (.tmp 3)⟩,
 ⟨some 17, none, .iad 1 (.tmp 15) (.tmp 16)⟩,
 ⟨some 18, none, .ld1 (.tmp 17)⟩,
 ⟨some 19, none, .mov (.tmp 0)⟩,
 ⟨some 20, none, .mov (.tmp 1)⟩,
 ⟨some 21, none, .iad 1 (.tmp 19) (.tmp 20)⟩,
 ⟨some 22, none, .ld1 (.tmp 21)⟩,
 ⟨some 23, none, .iad 1 (.tmp 11) (.tmp 12)⟩,
 ⟨none, none, .st 1 (.tmp 23) (.tmp 18)⟩,
 ⟨some 24, none, .iad 1 (.tmp 13) (.tmp 14)⟩,
 ⟨none, none, .st 1 (.tmp 24) (.tmp 22)⟩] [(0, 1), (0, 2), (1, 2), (0, 3), (1, 3), (2, 3), (0, 4), (1, 4), (2, 4), (3, 4), (0, 5), (1, 5), (2, 5), (3, 5), (4, 5), (0, 6), (1, 6), (2, 6), (3, 6), (0, 7), (1, 7), (2, 7), (3, 7), (0, 8), (1, 8), (2, 8), (3, 8), (4, 8), (5, 8), (6, 8), (7, 8), (0, 9), (1, 9), (2, 9), (3, 9), (4, 9), (5, 9), (6, 9), (7, 9), (8, 9), (0, 10), (1, 10), (2, 10), (3, 10), (4, 10), (5, 10), (6, 10), (7, 10), (0, 11), (1, 11), (2, 11), (3, 11), (4, 11), (5, 11), (6, 11), (7, 11), (2, 12), (3, 12), (2, 13), (3, 13)])
 (.seq (.ops [⟨some 25, none, .mov (.tmp 1)⟩,
 ⟨some 26, none, .bin .add (.tmp 25) (.const (.int .i64 1))⟩,
 ⟨some 27, none, .mov (.tmp 2)⟩,
 ⟨some 28, none, .bin .sub (.tmp 27) (.const (.int .i64 1))⟩,
 ⟨some 9, none, .mov (.tmp 26)⟩,
 ⟨some 10, none, .mov (.tmp 28)⟩])
 (.seq (.block 0 (.loop (.block 1 (.seq (.block 2 (.loop (.seq (.seq (.draw [⟨some 29, none, .mov (.tmp 9)⟩,
 ⟨some 30, none, .mov (.tmp 10)⟩,
 ⟨some 31, none, .bin .leq (.tmp 29) (.tmp 30)⟩,
 ⟨some 32, none, .mov (.tmp 31)⟩,
 ⟨some 33, (some (32, true)), .mov (.tmp 0)⟩,
 ⟨some 34, (some (32, true)), .mov (.tmp 1)⟩,
 ⟨some 35, (some (32, true)), .iad 1 (.tmp 33) (.tmp 34)⟩,
 ⟨some 36, (some (32, true)), .ld1 (.tmp 35)⟩,
 ⟨some 37, (some (32, true)), .mov (.tmp 0)⟩,
 ⟨some 38, (some (32, true)), .mov (.tmp 9)⟩,
 ⟨some 39, (some (32, true)), .iad 1 (.tmp 37) (.tmp 38)⟩,
 ⟨some 40, (some (32, true)), .ld1 (.tmp 39)⟩,
 ⟨some 41, (some (32, true)), .call (.func 82) [(.tmp 36), (.tmp 40)]⟩,
 ⟨some 42, (some (32, true)), .un .not (.tmp 41)⟩,
 ⟨some 43, none, .pick (.tmp 32) (.tmp 42) (.const (.bool false))⟩] [(0, 1), (4, 5), (4, 8), (5, 8), (6, 8), (7, 8), (4, 9), (5, 9), (6, 9), (7, 9), (8, 9), (4, 10), (5, 10), (6, 10), (7, 10), (4, 11), (5, 11), (6, 11), (7, 11)])
 (.cond (.tmp 43)
 .skip
 (.exit 2)))
 (.block 3 (.ops [⟨some 44, none, .mov (.tmp 9)⟩,
 ⟨some 45, none, .bin .add (.tmp 44) (.const (.int .i64 1))⟩,
 ⟨some 9, none, .mov (.tmp 45)⟩])))))
 (.seq (.block 4 (.loop (.seq (.seq (.draw [⟨some 46, none, .mov (.tmp 9)⟩,
 ⟨some 47, none, .mov (.tmp 10)⟩,
 ⟨some 48, none, .bin .leq (.tmp 46) (.tmp 47)⟩,
 ⟨some 49, none, .mov (.tmp 48)⟩,
 ⟨some 50, (some (49, true)), .mov (.tmp 0)⟩,
 ⟨some 51, (some (49, true)), .mov (.tmp 1)⟩,
 ⟨some 52, (some (49, true)), .iad 1 (.tmp 50) (.tmp 51)⟩,
 ⟨some 53, (some (49, true)), .ld1 (.tmp 52)⟩,
 ⟨some 54, (some (49, true)), .mov (.tmp 0)⟩,
 ⟨some 55, (some (49, true)), .mov (.tmp 10)⟩,
 ⟨some 56, (some (49, true)), .iad 1 (.tmp 54) (.tmp 55)⟩,
 ⟨some 57, (some (49, true)), .ld1 (.tmp 56)⟩,
 ⟨some 58, (some (49, true)), .call (.func 82) [(.tmp 53), (.tmp 57)]⟩,
 ⟨some 59, none, .pick (.tmp 49) (.tmp 58) (.const (.bool false))⟩] [(0, 1), (4, 5), (4, 8), (5, 8), (6, 8), (7, 8), (4, 9), (5, 9), (6, 9), (7, 9), (8, 9), (4, 10), (5, 10), (6, 10), (7, 10), (4, 11), (5, 11), (6, 11), (7, 11)])
 (.cond (.tmp 59)
 .skip
 (.exit 4)))
 (.block 5 (.ops [⟨some 60, none, .mov (.tmp 10)⟩,
 ⟨some 61, none, .bin .sub (.tmp 60) (.const (.int .i64 1))⟩,
 ⟨some 10, none, .mov (.tmp 61)⟩])))))
 (.seq (.seq (.ops [⟨some 62, none, .mov (.tmp 9)⟩,
 ⟨some 63, none, .mov (.tmp 10)⟩,
 ⟨some 64, none, .bin .gtr (.tmp 62) (.tmp 63)⟩])
 (.cond (.tmp 64)
 (.exit 0)
 .skip))
 (.seq (.draw [⟨some 65, none, .mov (.tmp 0)⟩,
 ⟨some 66, none, .mov (.tmp 9)⟩,
 ⟨some 67, none, .mov (.tmp 0)⟩,
 ⟨some 68, none, .mov (.tmp 10)⟩,
 ⟨some 69, none, .mov (.tmp 0)⟩,
 ⟨some 70, none, .mov (.tmp 10)⟩,
 ⟨some 71, none, .iad 1 (.tmp 69) (.tmp 70)⟩,
 ⟨some 72, none, .ld1 (.tmp 71)⟩,
 ⟨some 73, none, .mov (.tmp 0)⟩,
 ⟨some 74, none, .mov (.tmp 9)⟩,
 ⟨some 75, none, .iad 1 (.tmp 73) (.tmp 74)⟩,
 ⟨some 76, none, .ld1 (.tmp 75)⟩,
 ⟨some 77, none, .iad 1 (.tmp 65) (.tmp 66)⟩,
 ⟨none, none, .st 1 (.tmp 77) (.tmp 72)⟩,
 ⟨some 78, none, .iad 1 (.tmp 67) (.tmp 68)⟩,
 ⟨none, none, .st 1 (.tmp 78) (.tmp 76)⟩] [(0, 1), (0, 2), (1, 2), (0, 3), (1, 3), (2, 3), (0, 4), (1, 4), (2, 4), (3, 4), (0, 5), (1, 5), (2, 5), (3, 5), (4, 5), (0, 6), (1, 6), (2, 6), (3, 6), (0, 7), (1, 7), (2, 7), (3, 7), (0, 8), (1, 8), (2, 8), (3, 8), (4, 8), (5, 8), (6, 8), (7, 8), (0, 9), (1, 9), (2, 9), (3, 9), (4, 9), (5, 9), (6, 9), (7, 9), (8, 9), (0, 10), (1, 10), (2, 10), (3, 10), (4, 10), (5, 10), (6, 10), (7, 10), (0, 11), (1, 11), (2, 11), (3, 11), (4, 11), (5, 11), (6, 11), (7, 11), (2, 12), (3, 12), (2, 13), (3, 13)])
 (.seq (.ops [⟨some 79, none, .mov (.tmp 9)⟩,
 ⟨some 80, none, .bin .add (.tmp 79) (.const (.int .i64 1))⟩,
 ⟨some 9, none, .mov (.tmp 80)⟩])
 (.ops [⟨some 81, none, .mov (.tmp 10)⟩,
 ⟨some 82, none, .bin .sub (.tmp 81) (.const (.int .i64 1))⟩,
 ⟨some 10, none, .mov (.tmp 82)⟩])))))))))
 (.seq (.ops [⟨some 83, none, .mov (.tmp 9)⟩,
 ⟨some 8, none, .mov (.tmp 83)⟩])
 .ret)))))⟩
theorem ok83 : compF Tryz.prog Tryz.f83 = some c83 := by kernel_rfl
def c84 : CF := ⟨168, [.tmp 8, .tmp 9],
 (.seq (.ops [⟨some 8, none, .mov (.const (.int .i64 0))⟩,
 ⟨some 9, none, .mov (.const (.bool false))⟩])
 (.seq (.draw [⟨some 12, none, .mov (.tmp 0)⟩,
 ⟨some 13, none, .mov (.tmp 1)⟩,
 ⟨some 14, none, .mov (.tmp 0)⟩,
 ⟨some 15, none, .mov (.tmp 3)⟩,
 ⟨some 16, none, .mov (.tmp 0)⟩,
 ⟨some 17, none, .mov (.tmp 3)⟩,
 ⟨some 18, none, .iad 1 (.tmp 16) (.tmp 17)⟩,
 ⟨some 19, none, .ld1 (.tmp 18)⟩,
 ⟨some 20, none, .mov (.tmp 0)⟩,
 ⟨some 21, none, .mov (.tmp 1)⟩,
 ⟨some 22, none, .iad 1 (.tmp 20) (.tmp 21)⟩,
 ⟨some 23, none, .ld1 (.tmp 22)⟩,
 ⟨some 24, none, .iad 1 (.tmp 12) (.tmp 13)⟩,
 ⟨none, none, .st 1 (.tmp 24) (.tmp 19)⟩,
 ⟨some 25, none, .iad 1 (.tmp 14) (.tmp 15)⟩,
 ⟨none, none, .st 1 (.tmp 25) (.tmp 23)⟩] [(0, 1), (0, 2), (1, 2), (0, 3), (1, 3), (2, 3), (0, 4), (1, 4), (2, 4), (3, 4), (0, 5), (1, 5), (2, 5), (3, 5), (4, 5), (0, 6), (1, 6), (2, 6), (3, 6), (0, 7), (1, 7), (2, 7), (3, 7), (0, 8), (1, 8), (2, 8), (3, 8), (4, 8), (5, 8), (6, 8), (7, 8), (0, 9), (1, 9), (2, 9), (3, 9), (4, 9), (5, 9), (6, 9), (7, 9), (8, 9), (0, 10), (1, 10), (2, 10), (3, 10), (4, 10), (5, 10), (6, 10), (7, 10), (0, 11), (1, 11), (2, 11), (3, 11), (4, 11), (5, 11), (6, 11), (7, 11), (2, 12), (3, 12), (2, 13), (3, 13)])
 (.seq (.ops [⟨some 26, none, .mov (.tmp 1)⟩,
 ⟨some 27, none, .bin .add (.tmp 26) (.const (.int .i64 1))⟩,
 ⟨some 28, none, .mov (.tmp 2)⟩,
 ⟨some 29, none, .bin .sub (.tmp 28) (.const (.int .i64 1))⟩,
 ⟨some 10, none, .mov (.tmp 27)⟩,
 ⟨some 11, none, .mov (.tmp 29)⟩])
 (.seq (.block 0 (.loop (.seq (.seq (.draw [⟨some 30, none, .mov (.tmp 10)⟩,
 ⟨some 31, none, .mov (.tmp 11)⟩,
 ⟨some 32, none, .bin .leq (.tmp 30) (.tmp 31)⟩,
 ⟨some 33, none, .mov (.tmp 32)⟩,
 ⟨some 34, (some (33, true)), .mov (.tmp 0)⟩,
 ⟨some 35, (some (33, true)), .mov (.tmp 10)⟩,
 ⟨some 36, (some (33, true)), .iad 1 (.tmp 34) (.tmp 35)⟩,
 ⟨some 37, (some (33, true)), .ld1 (.tmp 36)⟩,
 ⟨some 38, (some (33, true)), .mov (.tmp 0)⟩,
 ⟨some 39, (some (33, true)), .mov (.tmp 1)⟩,
 ⟨some 40, (some (33, true)), .iad 1 (.tmp 38) (.tmp 39)⟩,
 ⟨some 41, (some (33, true)), .ld1 (.tmp 40)⟩,
 ⟨some 42, (some (33, true)), .call (.func 82) [(.tmp 37), (.tmp 41)]⟩,
 ⟨some 43, none, .pick (.tmp 33) (.tmp 42) (.const (.bool false))⟩] [(0, 1), (4, 5), (4, 8), (5, 8), (6, 8), (7, 8), (4, 9), (5, 9), (6, 9), (7, 9), (8, 9), (4, 10), (5, 10), (6, 10), (7, 10), (4, 11), (5, 11), (6, 11), (7, 11)])
 (.cond (.tmp 43)
 .skip
 (.exit 0)))
 (.block 1 (.ops [⟨some 44, none, .mov (.tmp 10)⟩,
 ⟨some 45, none, .bin .add (.tmp 44) (.const (.int .i64 1))⟩,
 ⟨some 10, none, .mov (.tmp 45)⟩])))))
 (.seq (.block 2 (.loop (.seq (.seq (.draw [⟨some 46, none, .mov (.tmp 10)⟩,
 ⟨some 47, none, .mov (.tmp 11)⟩,
 ⟨some 48, none, .bin .leq (.tmp 46) (.tmp 47)⟩,
 ⟨some 49, none, .mov (.tmp 48)⟩,
 ⟨some 50, (some (49, true)), .mov (.tmp 0)⟩,
 ⟨some 51, (some (49, true)), .mov (.tmp 11)⟩,
 ⟨some 52, (some (49, true)), .iad 1 (.tmp 50) (.tmp 51)⟩,
 ⟨some 53, (some (49, true)), .ld1 (.tmp 52)⟩,
 ⟨some 54, (some (49, true)), .mov (.tmp 0)⟩,
 ⟨some 55, (some (49, true)), .mov (.tmp 1)⟩,
 ⟨some 56, (some (49, true)), .iad 1 (.tmp 54) (.tmp 55)⟩,
 ⟨some 57, (some (49, true)), .ld1 (.tmp 56)⟩,
 ⟨some 58, (some (49, true)), .call (.func 82) [(.tmp 53), (.tmp 57)]⟩,
 ⟨some 59, (some (49, true)), .un .not (.tmp 58)⟩,
 ⟨some 60, none, .pick (.tmp 49) (.tmp 59) (.const (.bool false))⟩] [(0, 1), (4, 5), (4, 8), (5, 8), (6, 8), (7, 8), (4, 9), (5, 9), (6, 9), (7, 9), (8, 9), (4, 10), (5, 10), (6, 10), (7, 10), (4, 11), (5, 11), (6, 11), (7, 11)])
 (.cond (.tmp 60)
 .skip
 (.exit 2)))
 (.block 3 (.ops [⟨some 61, none, .mov (.tmp 11)⟩,
 ⟨some 62, none, .bin .sub (.tmp 61) (.const (.int .i64 1))⟩,
 ⟨some 11, none, .mov (.tmp 62)⟩])))))
 (.seq (.seq (.ops [⟨some 63, none, .mov (.tmp 10)⟩,
 ⟨some 64, none, .mov (.tmp 11)⟩,
 ⟨some 65, none, .bin .gtr (.tmp 63) (.tmp 64)⟩])
 (.cond (.tmp 65)
 (.seq (.draw [⟨some 66, none, .mov (.tmp 0)⟩,
 ⟨some 67, none, .mov (.tmp 11)⟩,
 ⟨some 68, none, .mov (.tmp 0)⟩,
 ⟨some 69, none, .mov (.tmp 1)⟩,
 ⟨some 70, none, .mov (.tmp 0)⟩,
 ⟨some 71, none, .mov (.tmp 1)⟩,
 ⟨some 72, none, .iad 1 (.tmp 70) (.tmp 71)⟩,
 ⟨some 73, none, .ld1 (.tmp 72)⟩,
 ⟨some 74, none, .mov (.tmp 0)⟩,
 ⟨some 75, none, .mov (.tmp 11)⟩,
 ⟨some 76, none, .iad 1 (.tmp 74) (.tmp 75)⟩,
 ⟨some 77, none, .ld1 (.tmp 76)⟩,
 ⟨some 78, none, .iad 1 (.tmp 66) (.tmp 67)⟩,
 ⟨none, none, .st 1 (.tmp 78) (.tmp 73)⟩,
 ⟨some 79, none, .iad 1 (.tmp 68) (.tmp 69)⟩,
 ⟨none, none, .st 1 (.tmp 79) (.tmp 77)⟩] [(0, 1), (0, 2), (1, 2), (0, 3), (1, 3), (2, 3), (0, 4), (1, 4), (2, 4), (3, 4), (0, 5), (1, 5), (2, 5), (3, 5), (4, 5), (0, 6), (1, 6), (2, 6), (3, 6), (0, 7), (1, 7), (2, 7), (3, 7), (0, 8), (1, 8), (2, 8), (3, 8), (4, 8), (5, 8), (6, 8), (7, 8), (0, 9), (1, 9), (2, 9), (3, 9), (4, 9), (5, 9), (6, 9), (7, 9), (8, 9), (0, 10), (1, 10), (2, 10), (3, 10), (4, 10), (5, 10), (6, 10), (7, 10), (0, 11), (1, 11), (2, 11), (3, 11), (4, 11), (5, 11), (6, 11), (7, 11), (2, 12), (3, 12), (2, 13), (3, 13)])
 (.seq (.ops [⟨some 80, none, .mov (.tmp 11)⟩,
 ⟨some 8, none, .mov (.tmp 80)⟩,
 ⟨some 9, none, .mov (.const (.bool true))⟩])
 .ret))
 .skip))
 (.seq (.draw [⟨some 81, none, .mov (.tmp 0)⟩,
 ⟨some 82, none, .mov (.tmp 10)⟩,
 ⟨some 83, none, .mov (.tmp 0)⟩,
 ⟨some 84, none, .mov (.tmp 11)⟩,
 ⟨some 85, none, .mov (.tmp 0)⟩,
 ⟨some 86, none, .mov (.tmp 11)⟩,
 ⟨some 87, none, .iad 1 (.tmp 85) (.tmp 86)⟩,
 ⟨some 88, none, .ld1 (.tmp 87)⟩,
 ⟨some 89, none, .mov (.tmp 0)⟩,
 ⟨some 90, none, .mov (.tmp 10)⟩,
 ⟨some 91, none, .iad 1 (.tmp 89) (.tmp 90)⟩,
 ⟨some 92, none, .ld1 (.tmp 91)⟩,
 ⟨some 93, none, .iad 1 (.tmp 81) (.tmp 82)⟩,
 ⟨none, none, .st 1 (.tmp 93) (.tmp 88)⟩,
 ⟨some 94, none, .iad 1 (.tmp 83) (.tmp 84)⟩,
 ⟨none, none, .st 1 (.tmp 94) (.tmp 92)⟩] [(0, 1), (0, 2), (1, 2), (0, 3), (1, 3), (2, 3), (0, 4), (1, 4), (2, 4), (3, 4), (0, 5), (1, 5), (2, 5), (3, 5), (4, 5), (0, 6), (1, 6), (2, 6), (3, 6), (0, 7), (1, 7), (2, 7), (3, 7), (0, 8), (1, 8), (2, 8), (3, 8), (4, 8), (5, 8), (6, 8), (7, 8), (0, 9), (1, 9), (2, 9), (3, 9), (4, 9), (5, 9), (6, 9), (7, 9), (8, 9), (0, 10), (1, 10), (2, 10), (3, 10), (4, 10), (5, 10), (6, 10), (7, 10), (0, 11), (1, 11), (2, 11), (3, 11), (4, 11), (5, 11), (6, 11), (7, 11), (2, 12), (3, 12), (2, 13), (3, 13)])
 (.seq (.ops [⟨some 95, none, .mov (.tmp 10)⟩,
 ⟨some 96, none, .bin .add (.tmp 95) (.const (.int .i64 1))⟩,
 ⟨some 10, none, .mov (.tmp 96)⟩])
 (.seq (.ops [⟨some 97, none, .mov (.tmp 11)⟩,
 ⟨some 98, none, .bin .sub (.tmp 97) (.const (.int .i64 1))⟩,
 ⟨some 11, none, .mov (.tmp 98)⟩])
 (.seq (.block 4 (.loop (.block 5 (.seq (.block 6 (.loop (.seq (.seq (.draw [⟨some 99, none, .mov (.tmp 10)⟩,
 ⟨some 100, none, .mov (.tmp 11)⟩,
 ⟨some 101, none, .bin .leq (.tmp 99) (.tmp 100)⟩,
 ⟨some 102, none, .mov (.tmp 101)⟩,
 ⟨some 103, (some (102, true)), .mov (.tmp 0)⟩,
 ⟨some 104, (some (102, true)), .mov (.tmp 10)⟩,
 ⟨some 105, (some (102, true)), .iad 1 (.tmp 103) (.tmp 104)⟩,
 ⟨some 106, (some (102, true)), .ld1 (.tmp 105)⟩,
 ⟨some 107, (some (102, true)), .mov (.tmp 0)⟩,
 ⟨some 108, (some (102, true)), .mov (.tmp 1)⟩,
 ⟨some 109, (some (102, true)), .iad 1 (.tmp 107) (.tmp 108)⟩,
 ⟨some 110, (some (102, true)), .ld1 (.tmp 109)⟩,
 ⟨some 111, (some (102, true)), .call (.func 82) [(.tmp 106), (.tmp 110)]⟩,
 ⟨some 112, none, .pick (.tmp 102) (.tmp 111) (.const (.bool false))⟩] [(0, 1), (4, 5), (4, 8), (5, 8), (6, 8), (7, 8), (4, 9), (5, 9), (6, 9), (7, 9), (8, 9), (4, 10), (5, 10), (6, 10), (7, 10), (4, 11), (5, 11), (6, 11), (7, 11)])
 (.cond (.tmp 112)
 .skip
 (.exit 6)))
 (.block 7 (.ops [⟨some 113, none, .mov (.tmp 10)⟩,
 ⟨some 114, none, .bin .add (.tmp 113) (.const (.int .i64 1))⟩,
 ⟨some 10, none, .mov (.tmp 114)⟩])))))
 (.seq (.block 8 (.loop (.seq (.seq (.draw [⟨some 115, none, .mov (.tmp 10)⟩,
 ⟨some 116, none, .mov (.tmp 11)⟩,
 ⟨some 117, none, .bin .leq (.tmp 115) (.tmp 116)⟩,
 ⟨some 118, none, .mov (.tmp 117)⟩,
 ⟨some 119, (some (118, true)), .mov (.tmp 0)⟩,
 ⟨some 120, (some (118, true)), .mov (.tmp 11)⟩,
 ⟨some 121, (some (118, true)), .iad 1 (.tmp 119) (.tmp 120)⟩,
 ⟨some 122, (some (118, true)), .ld1 (.tmp 121)⟩,
 ⟨some 123, (some (118, true)), .mov (.tmp 0)⟩,
 ⟨some 124, (some (118, true)), .mov (.tmp 1)⟩,
 ⟨some 125, (some (118, true)), .iad 1 (.tmp 123) (.tmp 124)⟩,
 ⟨some 126, (some (118, true)), .ld1 (.tmp 125)⟩,
 ⟨some 127, (some (118, true)), .call (.func 82) [(.tmp 122), (.tmp 126)]⟩,
 ⟨some 128, (some (118, true)), .un .not (.tmp 127)⟩,
 ⟨some 129, none, .pick (.tmp 118) (.tmp 128) (.const (.bool false))⟩] [(0, 1), (4, 5), (4, 8), (5, 8), (6, 8), (7, 8), (4, 9), (5, 9), (6, 9), (7, 9), (8, 9), (4, 10), (5, 10), (6, 10), (7, 10), (4, 11), (5, 11), (6, 11), (7, 11)])
 (.cond (.tmp 129)
 .skip
 (.exit 8)))
 (.block 9 (.ops [⟨some 130, none, .mov (.tmp 11)⟩,
 ⟨some 131, none, .bin .sub (.tmp 130) (.const (.int .i64 1))⟩,
 ⟨some 11, none, .mov (.tmp 131)⟩])))))
 (.seq (.seq (.ops [⟨some 132, none, .mov (.tmp 10)⟩,
 ⟨some 133, none, .mov (.tmp 11)⟩,
 ⟨some 134, none, .bin .gtr (.tmp 132) (.tmp 133)⟩])
 (.cond (.tmp 134)
 (.exit 4)
 .skip))
 (.seq (.draw [⟨some 135, none, .mov (.tmp 0)⟩,
 ⟨some 136, none, .mov (.tmp 10)⟩,
 ⟨some 137, none, .mov (.tmp 0)⟩,
 ⟨some 138, none, .mov (.tmp 11)⟩,
 ⟨some 139, none, .mov (.tmp 0)⟩,
 ⟨some 140, none, .mov (.tmp 11)⟩,
 ⟨some 141, none, .iad 1 (.tmp 139) (.tmp 140)⟩,
 ⟨some 142, none, .ld1 (.tmp 141)⟩,
 ⟨some 143, none, .mov (.tmp 0)⟩,
 ⟨some 144, none, .mov (.tmp 10)⟩,
 ⟨some 145, none, .iad 1 (.tmp 143) (.tmp 144)⟩,
 ⟨some 146, none, .ld1 (.tmp 145)⟩,
 ⟨some 147, none, .iad 1 (.tmp 135) (.tmp 136)⟩,
 ⟨none, none, .st 1 (.tmp 147) (.tmp 142)⟩,
 ⟨some 148, none, .iad 1 (.tmp 137) (.tmp 138)⟩,
 ⟨none, none, .st 1 (.tmp 148) (.tmp 146)⟩] [(0, 1), (0, 2), (1, 2), (0, 3), (1, 3), (2, 3), (0, 4), (1, 4), (2, 4), (3, 4), (0, 5), (1, 5), (2, 5), (3, 5), (4, 5), (0, 6), (1, 6), (2, 6), (3, 6), (0, 7), (1, 7), (2, 7), (3, 7), (0, 8), (1, 8), (2, 8), (3, 8), (4, 8), (5, 8), (6, 8), (7, 8), (0, 9), (1, 9), (2, 9), (3, 9), (4, 9), (5, 9), (6, 9), (7, 9), (8, 9), (0, 10), (1, 10), (2, 10), (3, 10), (4, 10), (5, 10), (6, 10), (7, 10), (0, 11), (1, 11), (2, 11), (3, 11), (4, 11), (5, 11), (6, 11), (7, 11), (2, 12), (3, 12), (2, 13), (3, 13)])
 (.seq (.ops [⟨some 149, none, .mov (.tmp 10)⟩,
 ⟨some 150, none, .bin .add (.tmp 149) (.const (.int .i64 1))⟩,
 ⟨some 10, none, .mov (.tmp 150)⟩])
 (.ops [⟨some 151, none, .mov (.tmp 11)⟩,
 ⟨some 152, none, .bin .sub (.tmp 151) (.const (.int .i64 1))⟩,
 ⟨some 11, none, .mov (.tmp 152)⟩])))))))))
 (.seq (.draw [⟨some 153, none, .mov (.tmp 0)⟩,
 ⟨some 154, none, .mov (.tmp 11)⟩,
 ⟨some 155, none, .mov (.tmp 0)⟩,
 ⟨some 156, none, .mov (.tmp 1)⟩,
 ⟨some 157, none, .mov (.tmp 0)⟩,
 ⟨some 158, none, .mov (.tmp 1)⟩,
 ⟨some 159, none, .iad 1 (.tmp 157) (.tmp 158)⟩,
 ⟨some 160, none, .ld1 (.tmp 159)⟩,
 ⟨some 161, none, .mov (.tmp 0)⟩,
 ⟨some 162, none, .mov (.tmp 11)⟩,
 ⟨some 163, none, .iad 1 (.tmp 161) (.tmp 162)⟩,
 ⟨some 164, none, .ld1 (.tmp 163)⟩,
 ⟨some 165, none, .iad 1 (.tmp 153) (.tmp 154)⟩,
 ⟨none, none, .st 1 (.tmp 165) (.tmp 160)⟩,
 ⟨some 166, none, .iad 1 (.tmp 155) (.tmp 156)⟩,
 ⟨none, none, .st 1 (.tmp 166) (.tmp 164)⟩] [(0, 1), (0, 2), (1, 2), (0, 3), (1, 3), (2, 3), (0, 4), (1, 4), (2, 4), (3, 4), (0, 5), (1, 5), (2, 5), (3, 5), (4, 5), (0, 6), (1, 6), (2, 6), (3, 6), (0, 7), (1, 7), (2, 7), (3, 7), (0, 8), (1, 8), (2, 8), (3, 8), (4, 8), (5, 8), (6, 8), (7, 8), (0, 9), (1, 9), (2, 9), (3, 9), (4, 9), (5, 9), (6, 9), (7, 9), (8, 9), (0, 10), (1, 10), (2, 10), (3, 10), (4, 10), (5, 10), (6, 10), (7, 10), (0, 11), (1, 11), (2, 11), (3, 11), (4, 11), (5, 11), (6, 11), (7, 11), (2, 12), (3, 12), (2, 13), (3, 13)])
 (.seq (.ops [⟨some 167, none, .mov (.tmp 11)⟩,
 ⟨some 8, none, .mov (.tmp 167)⟩,
 ⟨some 9, none, .mov (.const (.bool false))⟩])
 .ret))))))))))))⟩
theorem ok84 : compF Tryz.prog Tryz.f84 = some c84 := by kernel_rfl
def c85 : CF := ⟨19, [.tmp 2],
 (.seq (.ops [⟨some 2, none, .mov (.const (.int .i64 0))⟩])
 (.seq (.seq (.ops [⟨some 3, none, .mov (.tmp 0)⟩,
 ⟨some 4, none, .bin .geq (.tmp 3) (.const (.int .u32 65536))⟩])
 (.cond (.tmp 4)
 (.seq (.ops [⟨some 5, none, .mov (.tmp 0)⟩,
 ⟨some 6, none, .bin .shr (.tmp 5) (.const (.int .u64 16))⟩,
 ⟨some 0, none, .mov (.tmp 6)⟩])
 (.ops [⟨some 2, none, .mov (.const (.int .i64 16))⟩]))
 .skip))
 (.seq (.seq (.ops [⟨some 7, none, .mov (.tmp 0)⟩,
 ⟨some 8, none, .bin .geq (.tmp 7) (.const (.int .u32 256))⟩])
 (.cond (.tmp 8)
 (.seq (.ops [⟨some 9, none, .mov (.tmp 0)⟩,
 ⟨some 10, none, .bin .shr (.tmp 9) (.const (.int .u64 8))⟩,
 ⟨some 0, none, .mov (.tmp 10)⟩])
 (.ops [⟨some 11, none, .mov (.tmp 2)⟩,
 ⟨some 12, none, .bin .add (.tmp 11) (.const (.int .i64 8))⟩,
 ⟨some 2, none, .mov (.tmp 12)⟩]))
 .skip))
 (.seq (.ops [⟨some 13, none, .mov (.tmp 2)⟩,
 ⟨some 14, none, .mov (.tmp 0)⟩,
 ⟨some 15, none, .cvi .u8 (.tmp 14)⟩,
 ⟨some 16, none, .ids (.const (.string ⟨#[0, 1, 2, 2, 3, 3, 3, 3, 4, 4, 4, 4, 4, 4, 4, 4, 5, 5, 5, 5, 5, 5, 5, 5, 5, 5, 5, 5, 5, 5, 5, 5, 6, 6, 6, 6, 6, 6, 6, 6, 6, 6, 6, 6, 6, 6, 6, 6, 6, 6, 6, 6, 6, 6, 6, 6, 6, 6, 6, 6, 6, 6, 6, 6, 7, 7, 7, 7, 7, 7, 7, 7, 7, 7, 7, 7, 7, 7, 7, 7, 7, 7, 7, 7, 7, 7, 7, 7, 7, 7, 7, 7, 7, 7, 7, 7, 7, 7, 7, 7, 7, 7, 7, 7, 7, 7, 7, 7, 7, 7, 7, 7, 7, 7, 7, 7, 7, 7, 7, 7, 7, 7, 7, 7, 7, 7, 7, 7, 8, 8, 8, 8, 8, 8, 8, 8, 8, 8, 8, 8, 8, 8, 8, 8, 8, 8, 8, 8, 8, 8, 8, 8, 8, 8, 8, 8, 8, 8, 8, 8, 8, 8, 8, 8, 8, 8, 8, 8, 8, 8, 8, 8, 8, 8, 8, 8, 8, 8, 8, 8, 8, 8, 8, 8, 8, 8, 8, 8, 8, 8, 8, 8, 8, 8, 8, 8, 8, 8, 8, 8, 8, 8, 8, 8, 8, 8, 8, 8, 8, 8, 8, 8, 8, 8, 8, 8, 8, 8, 8, 8, 8, 8, 8, 8, 8, 8, 8, 8, 8, 8, 8, 8, 8, 8, 8, 8, 8, 8, 8, 8, 8, 8, 8, 8, 8, 8, 8, 8, 8, 8, 8, 8, 8, 8, 8, 8]⟩)) (.tmp 15)⟩,
 ⟨some 17, none, .cvi .i64 (.tmp 16)⟩,
 ⟨some 18, none, .bin .add (.tmp 13) (.tmp 17)⟩,
 ⟨some 2, none, .mov (.tmp 18)⟩])
 .ret))))⟩
theorem ok85 : compF Tryz.prog Tryz.f85 = some c85 := by kernel_rfl
def c86 : CF := ⟨25, [.tmp 2],
 (.seq (.ops [⟨some 2, none, .mov (.const (.int .i64 0))⟩])
 (.seq (.seq (.ops [⟨some 3, none, .mov (.tmp 0)⟩,
 ⟨some 4, none, .bin .geq (.tmp 3) (.const (.int .u64 4294967296))⟩])
 (.cond (.tmp 4)
 (.seq (.ops [⟨some 5, none, .mov (.tmp 0)⟩,
 ⟨some 6, none, .bin .shr (.tmp 5) (.const (.int .u64 32))⟩,
 ⟨some 0, none, .mov (.tmp 6)⟩])
 (.ops [⟨some 2, none, .mov (.const (.int .i64 32))⟩]))
 .skip))
 (.seq (.seq (.ops [⟨some 7, none, .mov (.tmp 0)⟩,
 ⟨some 8, none, .bin .geq (.tmp 7) (.const (.int .u64 65536))⟩])
 (.cond (.tmp 8)
 (.seq (.ops [⟨some 9, none, .mov (.tmp 0)⟩,
 ⟨some 10, none, .bin .shr (.tmp 9) (.const (.int .u64 16))⟩,
 ⟨some 0, none, .mov (.tmp 10)⟩])
 (.ops [⟨some 11, none, .mov (.tmp 2)⟩,
 ⟨some 12, none, .bin .add (.tmp 11) (.const (.int .i64 16))⟩,
 ⟨some 2, none, .mov (.tmp 12)⟩]))
 .skip))
 (.seq (.seq (.ops [⟨some 13, none, .mov (.tmp 0)⟩,
 ⟨some 14, none, .bin .geq (.tmp 13) (.const (.int .u64 256))⟩])
 (.cond (.tmp 14)
 (.seq (.ops [⟨some 15, none, .mov (.tmp 0)⟩,
 ⟨some 16, none, .bin .shr (.tmp 15) (.const (.int .u64 8))⟩,
 ⟨some 0, none, .mov (.tmp 16)⟩])
 (.ops [⟨some 17, none, .mov (.tmp 2)⟩,
 ⟨some 18, none, .bin .add (.tmp 17) (.const (.int .i64 8))⟩,
 ⟨some 2, none, .mov (.tmp 18)⟩]))
 .skip))
 (.seq (.ops [⟨some 19, none, .mov (.tmp 2)⟩,
 ⟨some 20, none, .mov (.tmp 0)⟩,
 ⟨some 21, none, .cvi .u8 (.tmp 20)⟩,
 ⟨some 22, none, .ids (.const (.string ⟨#[0, 1, 2, 2, 3, 3, 3, 3, 4, 4, 4, 4, 4, 4, 4, 4, 5, 5, 5, 5, 5, 5, 5, 5, 5, 5, 5, 5, 5, 5, 5, 5, 6, 6, 6, 6, 6, 6, 6, 6, 6, 6, 6, 6, 6, 6, 6, 6, 6, 6, 6, 6, 6, 6, 6, 6, 6, 6, 6, 6, 6, 6, 6, 6, 7, 7, 7, 7, 7, 7, 7, 7, 7, 7, 7, 7, 7, 7, 7, 7, 7, 7, 7, 7, 7, 7, 7, 7, 7, 7, 7, 7, 7, 7, 7, 7, 7, 7, 7, 7, 7, 7, 7, 7, 7, 7, 7, 7, 7, 7, 7, 7, 7, 7, 7, 7, 7, 7, 7, 7, 7, 7, 7, 7, 7, 7, 7, 7, 8, 8, 8, 8, 8, 8, 8, 8, 8, 8, 8, 8, 8, 8, 8, 8, 8, 8, 8, 8, 8, 8, 8, 8, 8, 8, 8, 8, 8, 8, 8, 8, 8, 8, 8, 8, 8, 8, 8, 8, 8, 8, 8, 8, 8, 8, 8, 8, 8, 8, 8, 8, 8, 8, 8, 8, 8, 8, 8, 8, 8, 8, 8, 8, 8, 8, 8, 8, 8, 8, 8, 8, 8, 8, 8, 8, 8, 8, 8, 8, 8, 8, 8, 8, 8, 8, 8, 8, 8, 8, 8, 8, 8, 8, 8, 8, 8, 8, 8, 8, 8, 8, 8, 8, 8, 8, 8, 8, 8, 8, 8, 8, 8, 8, 8, 8, 8, 8, 8, 8, 8, 8, 8, 8, 8, 8, 8, 8]⟩)) (.tmp 21)⟩,
 ⟨some 23, none, .cvi .i64 (.tmp 22)⟩,
 ⟨some 24, none, .bin .add (.tmp 19) (.tmp 23)⟩,
 ⟨some 2, none, .mov (.tmp 24)⟩])
 .ret)))))⟩
theorem ok86 : compF Tryz.prog Tryz.f86 = some c86 := by kernel_rfl
def c87 : CF := ⟨45, [.tmp 6],
 (.seq (.ops [⟨some 6, none, .mov (.const (.int .i64 0))⟩])
 (.seq (.ops [⟨some 7, none, .mov (.tmp 0)⟩,
 ⟨some 8, none, .mov (.tmp 1)⟩,
 ⟨some 9, none, .mov (.tmp 2)⟩,
 ⟨some 10, none, .call (.func 64) [(.tmp 7), (.tmp 8), (.const (.int .i64 9)), (.tmp 9)]⟩,
 ⟨some 11, none, .mov (.tmp 10)⟩,
 ⟨some 12, (some (11, true)), .mov (.tmp 0)⟩,
 ⟨some 13, (some (11, true)), .nilck (.tmp 12)⟩,
 ⟨some 14, (some (11, true)), .fad (.tmp 13) 0⟩,
 ⟨some 15, (some (11, true)), .ld1 (.tmp 14)⟩,
 ⟨some 16, (some (11, true)), .mov (.tmp 1)⟩,
 ⟨some 17, (some (11, true)), .iad 6 (.tmp 15) (.tmp 16)⟩,
 ⟨some 18, (some (11, true)), .fad (.tmp 17) 1⟩,
 ⟨some 19, (some (11, true)), .ld1 (.tmp 18)⟩,
 ⟨some 20, (some (11, true)), .bin .eql (.tmp 19) (.const (.int .i64 1))⟩,
 ⟨some 21, none, .pick (.tmp 11) (.tmp 20) (.const (.bool false))⟩,
 ⟨some 22, none, .mov (.tmp 21)⟩,
 ⟨some 23, (some (22, true)), .mov (.tmp 0)⟩,
 ⟨some 24, (some (22, true)), .mov (.tmp 1)⟩,
 ⟨some 25, (some (22, true)), .bin .add (.tmp 24) (.const (.int .i64 1))⟩,
 ⟨some 26, (some (22, true)), .mov (.tmp 2)⟩,
 ⟨some 27, (some (22, true)), .bin .add (.tmp 26) (.const (.int .i32 1))⟩,
 ⟨some 28, (some (22, true)), .call (.func 64) [(.tmp 23), (.tmp 25), (.const (.int .i64 8)), (.tmp 27)]⟩,
 ⟨some 29, none, .pick (.tmp 22) (.tmp 28) (.const (.bool false))⟩,
 ⟨some 30, none, .mov (.tmp 29)⟩,
 ⟨some 31, (some (30, true)), .mov (.tmp 0)⟩,
 ⟨some 32, (some (30, true)), .nilck (.tmp 31)⟩,
 ⟨some 33, (some (30, true)), .fad (.tmp 32) 0⟩,
 ⟨some 34, (some (30, true)), .ld1 (.tmp 33)⟩,
 ⟨some 35, (some (30, true)), .mov (.tmp 1)⟩,
 ⟨some 36, (some (30, true)), .bin .add (.tmp 35) (.const (.int .i64 1))⟩,
 ⟨some 37, (some (30, true)), .iad 6 (.tmp 34) (.tmp 36)⟩,
 ⟨some 38, (some (30, true)), .fad (.tmp 37) 2⟩,
 ⟨some 39, (some (30, true)), .ld1 (.tmp 38)⟩,
 ⟨some 40, (some (30, true)), .bin .eql (.tmp 39) (.const (.int .i64 0))⟩,
 ⟨some 41, none, .pick (.tmp 30) (.tmp 40) (.const (.bool false))⟩,
 ⟨some 42, none, .call (.func 36) [(.tmp 41)]⟩])
 (.seq (.ops [⟨some 43, none, .mov (.tmp 1)⟩,
 ⟨some 44, none, .bin .add (.tmp 43) (.const (.int .i64 2))⟩,
 ⟨some 6, none, .mov (.tmp 44)⟩])
 .ret)))⟩
theorem ok87 : compF Tryz.prog Tryz.f87 = some c87 := by kernel_rfl
def c88 : CF := ⟨13, [.tmp 2, .tmp 3],
 (.seq (.ops [⟨some 2, none, .mov (.const (.int .i64 0))⟩,
 ⟨some 3, none, .mov (.const (.int .i64 0))⟩])
 (.seq (.seq (.ops [⟨some 4, none, .mov (.tmp 0)⟩,
 ⟨some 5, none, .bin .lss (.tmp 4) (.const (.int .i64 1))⟩,
 ⟨some 6, none, .mov (.tmp 5)⟩,
 ⟨some 7, (some (6, false)), .mov (.tmp 0)⟩,
 ⟨some 8, (some (6, false)), .bin .geq (.tmp 7) (.const (.int .i64 34))⟩,
 ⟨some 9, none, .pick (.tmp 6) (.const (.bool true)) (.tmp 8)⟩])
 (.cond (.tmp 9)
 (.seq (.ops [⟨some 2, none, .mov (.const (.int .i64 0))⟩,
 ⟨some 3, none, .mov (.const (.int .i64 4))⟩])
 .ret)
 .skip))
 (.seq (.ops [⟨some 10, none, .mov (.tmp 0)⟩,
 ⟨some 11, none, .iaa 34 1 (.global 0) (.tmp 10)⟩,
 ⟨some 12, none, .ld1 (.tmp 11)⟩,
 ⟨some 2, none, .mov (.tmp 12)⟩,
 ⟨some 3, none, .mov (.const (.int .i64 0))⟩])
 .ret)))⟩
theorem ok88 : compF Tryz.prog Tryz.f88 = some c88 := by kernel_rfl
end Go.Proofs.YthpmjahdeimgmaaGreatDoor.code
