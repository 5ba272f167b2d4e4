/- The code that the law reaches, as the interpreter takes it; each function's is shown to be the program's own. By an AI agent. No person has read it. -/
import Derived.Test.YtjmohjemgohlpaaGreatDoorCodeA
import Derived.Test.YtjmohjemgohlpaaGreatDoorChecked
import Derived.KernelRfl
namespace Go.Proofs.YtjmohjemgohlpaaGreatDoor.code
open Go Am
set_option maxRecDepth 100000
def c93 : CF := ⟨55, [.tmp 4],
 (.seq (.ops [⟨some 4, none, .mov (.const (.int .i64 0))⟩])
 (.seq (.seq (.ops [⟨some 11, none, .mov (.tmp 1)⟩,
 ⟨some 12, none, .bin .eql (.tmp 11) (.const (.string ⟨#[]⟩))⟩])
 (.cond (.tmp 12)
 (.seq (.ops [⟨some 4, none, .mov (.const (.int .i64 (-1)))⟩])
 .ret)
 .skip))
 (.seq (.seq (.ops [⟨some 13, none, .mov (.tmp 1)⟩,
 ⟨some 14, none, .lns (.tmp 13)⟩,
 ⟨some 15, none, .bin .eql (.tmp 14) (.const (.int .i64 1))⟩])
 (.cond (.tmp 15)
 (.seq (.ops [⟨some 16, none, .mov (.tmp 1)⟩,
 ⟨some 17, none, .ids (.tmp 16) (.const (.int .i64 0))⟩,
 ⟨some 18, none, .cvi .i32 (.tmp 17)⟩,
 ⟨some 5, none, .mov (.tmp 18)⟩])
 (.seq (.seq (.ops [⟨some 19, none, .mov (.tmp 5)⟩,
 ⟨some 20, none, .bin .geq (.tmp 19) (.const (.int .i32 128))⟩])
 (.cond (.tmp 20)
 (.ops [⟨some 5, none, .mov (.const (.int .i32 65533))⟩])
 .skip))
 (.seq (.ops [⟨some 21, none, .mov (.tmp 0)⟩,
 ⟨some 22, none, .mov (.tmp 5)⟩,
 ⟨some 23, none, .call (.func 104) [(.tmp 21), (.tmp 22)]⟩,
 ⟨some 4, none, .mov (.tmp 23)⟩])
 .ret)))
 .skip))
 (.seq (.seq (.ops [⟨some 24, none, .mov (.tmp 0)⟩,
 ⟨some 25, none, .lns (.tmp 24)⟩,
 ⟨some 26, none, .call (.func 105) [(.tmp 25)]⟩])
 (.cond (.tmp 26)
 (.seq (.ops [⟨some 28, none, .mov (.tmp 1)⟩,
 ⟨some 29, none, .call (.func 89) [(.tmp 28)]⟩,
 ⟨some 27, none, .mov (.tmp 29)⟩,
 ⟨some 30, none, .ext (.tmp 27) 0⟩,
 ⟨some 31, none, .ext (.tmp 27) 1⟩,
 ⟨some 6, none, .newz [(.bool false), (.bool false), (.bool false), (.bool false), (.bool false), (.bool false), (.bool false), (.bool false), (.bool false), (.bool false), (.bool false), (.bool false), (.bool false), (.bool false), (.bool false), (.bool false), (.bool false), (.bool false), (.bool false), (.bool false), (.bool false), (.bool false), (.bool false), (.bool false), (.bool false), (.bool false), (.bool false), (.bool false), (.bool false), (.bool false), (.bool false), (.bool false), (.bool false), (.bool false), (.bool false), (.bool false), (.bool false), (.bool false), (.bool false), (.bool false), (.bool false), (.bool false), (.bool false), (.bool false), (.bool false), (.bool false), (.bool false), (.bool false), (.bool false), (.bool false), (.bool false), (.bool false), (.bool false), (.bool false), (.bool false), (.bool false), (.bool false), (.bool false), (.bool false), (.bool false), (.bool false), (.bool false), (.bool false), (.bool false), (.bool false), (.bool false), (.bool false), (.bool false), (.bool false), (.bool false), (.bool false), (.bool false), (.bool false), (.bool false), (.bool false), (.bool false), (.bool false), (.bool false), (.bool false), (.bool false), (.bool false), (.bool false), (.bool false), (.bool false), (.bool false), (.bool false), (.bool false), (.bool false), (.bool false), (.bool false), (.bool false), (.bool false), (.bool false), (.bool false), (.bool false), (.bool false), (.bool false), (.bool false), (.bool false), (.bool false), (.bool false), (.bool false), (.bool false), (.bool false), (.bool false), (.bool false), (.bool false), (.bool false), (.bool false), (.bool false), (.bool false), (.bool false), (.bool false), (.bool false), (.bool false), (.bool false), (.bool false), (.bool false), (.bool false), (.bool false), (.bool false), (.bool false), (.bool false), (.bool false), (.bool false), (.bool false), (.bool false), (.bool false), (.bool false), (.bool false), (.bool false), (.bool false), (.bool false), (.bool false), (.bool false), (.bool false), (.bool false), (.bool false), (.bool false), (.bool false), (.bool false), (.bool false), (.bool false), (.bool false), (.bool false), (.bool false), (.bool false), (.bool false), (.bool false), (.bool false), (.bool false), (.bool false), (.bool false), (.bool false), (.bool false), (.bool false), (.bool false), (.bool false), (.bool false), (.bool false), (.bool false), (.bool false), (.bool false), (.bool false), (.bool false), (.bool false), (.bool false), (.bool false), (.bool false), (.bool false), (.bool false), (.bool false), (.bool false), (.bool false), (.bool false), (.bool false), (.bool false), (.bool false), (.bool false), (.bool false), (.bool false), (.bool false), (.bool false), (.bool false), (.bool false), (.bool false), (.bool false), (.bool false), (.bool false), (.bool false), (.bool false), (.bool false), (.bool false), (.bool false), (.bool false), (.bool false), (.bool false), (.bool false), (.bool false), (.bool false), (.bool false), (.bool false), (.bool false), (.bool false), (.bool false), (.bool false), (.bool false), (.bool false), (.bool false), (.bool false), (.bool false), (.bool false), (.bool false), (.bool false), (.bool false), (.bool false), (.bool false), (.bool false), (.bool false), (.bool false), (.bool false), (.bool false), (.bool false), (.bool false), (.bool false), (.bool false), (.bool false), (.bool false), (.bool false), (.bool false), (.bool false), (.bool false), (.bool false), (.bool false), (.bool false), (.bool false), (.bool false), (.bool false), (.bool false), (.bool false), (.bool false), (.bool false), (.bool false), (.bool false), (.bool false), (.bool false), (.bool false), (.bool false), (.bool false), (.bool false), (.bool false), (.bool false), (.bool false), (.bool false), (.bool false), (.bool false)]⟩,
 ⟨none, none, .st 256 (.tmp 6) (.tmp 30)⟩,
 ⟨some 7, none, .mov (.tmp 31)⟩])
 (.seq (.ops [⟨some 32, none, .mov (.tmp 7)⟩])
 (.cond (.tmp 32)
 (.seq (.seq (.ops [⟨some 8, none, .mov (.const (.int .i64 0))⟩])
 (.block 0 (.loop (.seq (.seq (.ops [⟨some 33, none, .mov (.tmp 8)⟩,
 ⟨some 34, none, .mov (.tmp 0)⟩,
 ⟨some 35, none, .lns (.tmp 34)⟩,
 ⟨some 36, none, .bin .lss (.tmp 33) (.tmp 35)⟩])
 (.cond (.tmp 36)
 .skip
 (.exit 0)))
 (.seq (.block 1 (.seq (.ops [⟨some 39, none, .mov (.tmp 0)⟩,
 ⟨some 40, none, .mov (.tmp 8)⟩,
 ⟨some 41, none, .ids (.tmp 39) (.tmp 40)⟩,
 ⟨some 42, none, .call (.func 101) [(.tmp 6), (.tmp 41)]⟩])
 (.cond (.tmp 42)
 (.seq (.ops [⟨some 43, none, .mov (.tmp 8)⟩,
 ⟨some 4, none, .mov (.tmp 43)⟩])
 .ret)
 .skip)))
 (.ops [⟨some 37, none, .mov (.tmp 8)⟩,
 ⟨some 38, none, .bin .add (.tmp 37) (.const (.int .i64 1))⟩,
 ⟨some 8, none, .mov (.tmp 38)⟩]))))))
 (.seq (.ops [⟨some 4, none, .mov (.const (.int .i64 (-1)))⟩])
 .ret))
 .skip)))
 .skip))
 (.seq (.seq (.ops [⟨some 44, none, .mov (.tmp 0)⟩,
 ⟨some 45, none, .itr (.tmp 44)⟩])
 (.block 2 (.loop (.seq (.ops [⟨some 46, none, .nxt (.tmp 45)⟩,
 ⟨some 47, none, .ext (.tmp 46) 0⟩])
 (.seq (.cond (.tmp 47)
 .skip
 (.exit 2))
 (.block 3 (.seq (.ops [⟨some 48, none, .ext (.tmp 46) 1⟩,
 ⟨some 49, none, .ext (.tmp 46) 2⟩,
 ⟨some 9, none, .mov (.tmp 48)⟩,
 ⟨some 10, none, .mov (.tmp 49)⟩])
 (.seq (.ops [⟨some 50, none, .mov (.tmp 1)⟩,
 ⟨some 51, none, .mov (.tmp 10)⟩,
 ⟨some 52, none, .call (.func 104) [(.tmp 50), (.tmp 51)]⟩,
 ⟨some 53, none, .bin .geq (.tmp 52) (.const (.int .i64 0))⟩])
 (.cond (.tmp 53)
 (.seq (.ops [⟨some 54, none, .mov (.tmp 9)⟩,
 ⟨some 4, none, .mov (.tmp 54)⟩])
 .ret)
 .skip)))))))))
 (.seq (.ops [⟨some 4, none, .mov (.const (.int .i64 (-1)))⟩])
 .ret))))))⟩
theorem ok93 : compF Tryz.prog Tryz.f93 = some c93 := by kernel_rfl
def c94 : CF := ⟨18, [.tmp 4],
 (.seq (.ops [⟨some 4, none, .mov (.const (.bool false))⟩])
 (.seq (.ops [⟨some 5, none, .mov (.tmp 0)⟩,
 ⟨some 6, none, .lns (.tmp 5)⟩,
 ⟨some 7, none, .mov (.tmp 1)⟩,
 ⟨some 8, none, .lns (.tmp 7)⟩,
 ⟨some 9, none, .bin .geq (.tmp 6) (.tmp 8)⟩,
 ⟨some 10, none, .mov (.tmp 9)⟩,
 ⟨some 11, (some (10, true)), .mov (.tmp 0)⟩,
 ⟨some 12, (some (10, true)), .mov (.tmp 1)⟩,
 ⟨some 13, (some (10, true)), .lns (.tmp 12)⟩,
 ⟨some 14, (some (10, true)), .sls (.tmp 11) none (some (.tmp 13))⟩,
 ⟨some 15, (some (10, true)), .mov (.tmp 1)⟩,
 ⟨some 16, (some (10, true)), .bin .eql (.tmp 14) (.tmp 15)⟩,
 ⟨some 17, none, .pick (.tmp 10) (.tmp 16) (.const (.bool false))⟩,
 ⟨some 4, none, .mov (.tmp 17)⟩])
 .ret))⟩
theorem ok94 : compF Tryz.prog Tryz.f94 = some c94 := by kernel_rfl
def c95 : CF := ⟨30, [.cell1 2, .tmp 3],
 (.seq (.ops [⟨some 2, none, .newz [(.int .i64 0)]⟩,
 ⟨some 3, none, .mov (.const (.int .i64 0))⟩])
 (.seq (.seq (.ops [⟨some 6, none, .mov (.tmp 0)⟩,
 ⟨some 7, none, .lnl (.tmp 6)⟩,
 ⟨some 8, none, .bin .gtr (.tmp 7) (.const (.int .i64 8000))⟩])
 (.cond (.tmp 8)
 (.seq (.ops [⟨none, none, .st 1 (.tmp 2) (.const (.int .i64 0))⟩,
 ⟨some 3, none, .mov (.const (.int .i64 3))⟩])
 .ret)
 .skip))
 (.seq (.seq (.ops [⟨some 9, none, .mov (.tmp 0)⟩,
 ⟨some 10, none, .call (.func 96) [(.tmp 9)]⟩])
 (.block 0 (.rangeF (.tmp 10) [11, 12]
 (.seq (.ops [⟨some 4, none, .mov (.tmp 11)⟩])
 (.ops [⟨some 5, none, .mov (.tmp 12)⟩]))
 (.block 1 (.ops [⟨some 13, none, .mov (.tmp 4)⟩,
 ⟨some 14, none, .mov (.tmp 5)⟩,
 ⟨some 15, none, .call (.func 106) [(.tmp 14)]⟩,
 ⟨some 16, none, .bin .add (.tmp 13) (.tmp 15)⟩,
 ⟨none, none, .st 1 (.tmp 2) (.tmp 16)⟩])))))
 (.seq (.seq (.ops [⟨some 17, none, .ld1 (.tmp 2)⟩,
 ⟨some 18, none, .mov (.tmp 0)⟩,
 ⟨some 19, none, .lnl (.tmp 18)⟩,
 ⟨some 20, none, .bin .lss (.tmp 17) (.tmp 19)⟩])
 (.cond (.tmp 20)
 (.ops [⟨some 22, none, .mov (.tmp 0)⟩,
 ⟨some 23, none, .ld1 (.tmp 2)⟩,
 ⟨some 24, none, .call (.func 107) [(.tmp 22), (.tmp 23)]⟩,
 ⟨some 21, none, .mov (.tmp 24)⟩,
 ⟨some 25, none, .ext (.tmp 21) 0⟩,
 ⟨some 26, none, .ext (.tmp 21) 1⟩,
 ⟨some 27, none, .ext (.tmp 21) 2⟩,
 ⟨some 3, none, .mov (.tmp 27)⟩])
 .skip))
 (.seq (.ops [⟨some 28, none, .ld1 (.tmp 2)⟩,
 ⟨some 29, none, .mov (.tmp 3)⟩,
 ⟨none, none, .st 1 (.tmp 2) (.tmp 28)⟩,
 ⟨some 3, none, .mov (.tmp 29)⟩])
 .ret)))))⟩
theorem ok95 : compF Tryz.prog Tryz.f95 = some c95 := by kernel_rfl
def c96 : CF := ⟨4, [.tmp 2],
 (.seq (.ops [⟨some 1, none, .box (.tmp 0)⟩,
 ⟨some 2, none, .mov (.const .nilFunc)⟩])
 (.seq (.ops [⟨some 3, none, .fn 108 [] [(.tmp 1)]⟩,
 ⟨some 2, none, .mov (.tmp 3)⟩])
 .ret))⟩
theorem ok96 : compF Tryz.prog Tryz.f96 = some c96 := by kernel_rfl
def c97 : CF := ⟨5, [.tmp 2],
 (.seq (.ops [⟨some 2, none, .mov (.const (.bool false))⟩])
 (.seq (.ops [⟨some 3, none, .mov (.tmp 0)⟩,
 ⟨some 4, none, .call (.func 109) [(.tmp 3)]⟩,
 ⟨some 2, none, .mov (.tmp 4)⟩])
 .ret))⟩
theorem ok97 : compF Tryz.prog Tryz.f97 = some c97 := by kernel_rfl
def c98 : CF := ⟨2, [.cells 0 10],
 (.seq (.ops [⟨some 0, none, .newz [(.string ⟨#[]⟩), (.string ⟨#[]⟩), (.string ⟨#[]⟩), (.string ⟨#[]⟩), (.string ⟨#[]⟩), (.string ⟨#[]⟩), (.string ⟨#[]⟩), (.string ⟨#[]⟩), (.string ⟨#[]⟩), (.string ⟨#[]⟩)]⟩])
 (.seq (.ops [⟨some 1, none, .agg [(.string ⟨#[]⟩), (.string ⟨#[]⟩), (.string ⟨#[]⟩), (.string ⟨#[]⟩), (.string ⟨#[]⟩), (.string ⟨#[]⟩), (.string ⟨#[]⟩), (.string ⟨#[]⟩), (.string ⟨#[]⟩), (.string ⟨#[]⟩)] [(1, 1, (.const (.string ⟨#[9, 10, 13, 32]⟩))), (2, 1, (.const (.string ⟨#[40, 91]⟩))), (3, 1, (.const (.string ⟨#[41, 93]⟩))), (4, 1, (.const (.string ⟨#[39]⟩))), (5, 1, (.const (.string ⟨#[35]⟩))), (6, 1, (.const (.string ⟨#[59]⟩))), (8, 1, (.const (.string ⟨#[43, 45]⟩))), (9, 1, (.const (.string ⟨#[33, 36, 37, 38, 42, 47, 58, 60, 61, 62, 63, 94, 95, 126, 46, 64]⟩)))]⟩,
 ⟨none, none, .st 10 (.tmp 0) (.tmp 1)⟩])
 .ret))⟩
theorem ok98 : compF Tryz.prog Tryz.f98 = some c98 := by kernel_rfl
def c99 : CF := ⟨15, [.tmp 4],
 (.seq (.ops [⟨some 4, none, .mov (.const (.bool false))⟩])
 (.seq (.seq (.ops [⟨some 7, none, .mov (.tmp 0)⟩,
 ⟨some 8, none, .itr (.tmp 7)⟩])
 (.block 0 (.loop (.seq (.ops [⟨some 9, none, .nxt (.tmp 8)⟩,
 ⟨some 10, none, .ext (.tmp 9) 0⟩])
 (.seq (.cond (.tmp 10)
 .skip
 (.exit 0))
 (.block 1 (.seq (.ops [⟨some 11, none, .ext (.tmp 9) 2⟩,
 ⟨some 6, none, .mov (.tmp 11)⟩])
 (.seq (.ops [⟨some 12, none, .mov (.tmp 6)⟩,
 ⟨some 13, none, .mov (.tmp 1)⟩,
 ⟨some 14, none, .bin .eql (.tmp 12) (.tmp 13)⟩])
 (.cond (.tmp 14)
 (.seq (.ops [⟨some 4, none, .mov (.const (.bool true))⟩])
 .ret)
 .skip)))))))))
 (.seq (.ops [⟨some 4, none, .mov (.const (.bool false))⟩])
 .ret)))⟩
theorem ok99 : compF Tryz.prog Tryz.f99 = some c99 := by kernel_rfl
def c100 : CF := ⟨19, [.tmp 4],
 (.seq (.ops [⟨some 4, none, .mov (.const (.int .i64 0))⟩])
 (.seq (.seq (.ops [⟨some 6, none, .mov (.tmp 0)⟩,
 ⟨some 7, none, .lnl (.tmp 6)⟩,
 ⟨some 8, none, .mov (.const (.int .i64 0))⟩])
 (.block 0 (.loop (.seq (.ops [⟨some 9, none, .bin .lss (.tmp 8) (.tmp 7)⟩])
 (.seq (.cond (.tmp 9)
 .skip
 (.exit 0))
 (.seq (.block 1 (.seq (.ops [⟨some 10, none, .mov (.tmp 8)⟩,
 ⟨some 5, none, .mov (.tmp 10)⟩])
 (.seq (.ops [⟨some 11, none, .mov (.tmp 1)⟩,
 ⟨some 12, none, .mov (.tmp 0)⟩,
 ⟨some 13, none, .mov (.tmp 5)⟩,
 ⟨some 14, none, .iad 1 (.tmp 12) (.tmp 13)⟩,
 ⟨some 15, none, .ld1 (.tmp 14)⟩,
 ⟨some 16, none, .bin .eql (.tmp 11) (.tmp 15)⟩])
 (.cond (.tmp 16)
 (.seq (.ops [⟨some 17, none, .mov (.tmp 5)⟩,
 ⟨some 4, none, .mov (.tmp 17)⟩])
 .ret)
 .skip))))
 (.ops [⟨some 18, none, .bin .add (.tmp 8) (.const (.int .i64 1))⟩,
 ⟨some 8, none, .mov (.tmp 18)⟩])))))))
 (.seq (.ops [⟨some 4, none, .mov (.const (.int .i64 (-1)))⟩])
 .ret)))⟩
theorem ok100 : compF Tryz.prog Tryz.f100 = some c100 := by kernel_rfl
def c101 : CF := ⟨10, [.tmp 4],
 (.seq (.ops [⟨some 4, none, .mov (.const (.bool false))⟩])
 (.seq (.ops [⟨some 5, none, .mov (.tmp 0)⟩,
 ⟨some 6, none, .mov (.tmp 1)⟩,
 ⟨some 7, none, .nilck (.tmp 5)⟩,
 ⟨some 8, none, .iaa 256 1 (.tmp 7) (.tmp 6)⟩,
 ⟨some 9, none, .ld1 (.tmp 8)⟩,
 ⟨some 4, none, .mov (.tmp 9)⟩])
 .ret))⟩
theorem ok101 : compF Tryz.prog Tryz.f101 = some c101 := by kernel_rfl
def c102 : CF := ⟨19, [.tmp 2, .tmp 3],
 (.seq (.ops [⟨some 2, none, .mov (.const (.int .i32 0))⟩,
 ⟨some 3, none, .mov (.const (.int .i64 0))⟩])
 (.seq (.seq (.ops [⟨some 4, none, .mov (.tmp 0)⟩,
 ⟨some 5, none, .bin .neq (.tmp 4) (.const (.string ⟨#[]⟩))⟩,
 ⟨some 6, none, .mov (.tmp 5)⟩,
 ⟨some 7, (some (6, true)), .mov (.tmp 0)⟩,
 ⟨some 8, (some (6, true)), .ids (.tmp 7) (.const (.int .i64 0))⟩,
 ⟨some 9, (some (6, true)), .bin .lss (.tmp 8) (.const (.int .u8 128))⟩,
 ⟨some 10, none, .pick (.tmp 6) (.tmp 9) (.const (.bool false))⟩])
 (.cond (.tmp 10)
 (.seq (.ops [⟨some 11, none, .mov (.tmp 0)⟩,
 ⟨some 12, none, .ids (.tmp 11) (.const (.int .i64 0))⟩,
 ⟨some 13, none, .cvi .i32 (.tmp 12)⟩,
 ⟨some 2, none, .mov (.tmp 13)⟩,
 ⟨some 3, none, .mov (.const (.int .i64 1))⟩])
 .ret)
 (.ops [⟨some 15, none, .mov (.tmp 0)⟩,
 ⟨some 16, none, .call (.func 110) [(.tmp 15)]⟩,
 ⟨some 14, none, .mov (.tmp 16)⟩,
 ⟨some 17, none, .ext (.tmp 14) 0⟩,
 ⟨some 18, none, .ext (.tmp 14) 1⟩,
 ⟨some 2, none, .mov (.tmp 17)⟩,
 ⟨some 3, none, .mov (.tmp 18)⟩])))
 .ret))⟩
theorem ok102 : compF Tryz.prog Tryz.f102 = some c102 := by kernel_rfl
def c103 : CF := ⟨9, [.tmp 4],
 (.seq (.ops [⟨some 4, none, .mov (.const (.bool false))⟩])
 (.seq (.ops [⟨some 5, none, .mov (.tmp 0)⟩,
 ⟨some 6, none, .mov (.tmp 1)⟩,
 ⟨some 7, none, .call (.func 104) [(.tmp 5), (.tmp 6)]⟩,
 ⟨some 8, none, .bin .geq (.tmp 7) (.const (.int .i64 0))⟩,
 ⟨some 4, none, .mov (.tmp 8)⟩])
 .ret))⟩
theorem ok103 : compF Tryz.prog Tryz.f103 = some c103 := by kernel_rfl
def c104 : CF := ⟨187, [.tmp 4],
 (.seq (.ops [⟨some 4, none, .mov (.const (.int .i64 0))⟩])
 (.block 0 (.seq (.ops [⟨some 161, none, .mov (.tmp 1)⟩,
 ⟨some 162, none, .bin .leq (.const (.int .i32 0)) (.tmp 161)⟩,
 ⟨some 163, none, .mov (.tmp 162)⟩,
 ⟨some 164, (some (163, true)), .mov (.tmp 1)⟩,
 ⟨some 165, (some (163, true)), .bin .lss (.tmp 164) (.const (.int .i32 128))⟩,
 ⟨some 166, none, .pick (.tmp 163) (.tmp 165) (.const (.bool false))⟩,
 ⟨some 160, none, .mov (.tmp 166)⟩])
 (.cond (.tmp 160)
 (.seq (.ops [⟨some 167, none, .mov (.tmp 0)⟩,
 ⟨some 168, none, .mov (.tmp 1)⟩,
 ⟨some 169, none, .cvi .u8 (.tmp 168)⟩,
 ⟨some 170, none, .call (.func 111) [(.tmp 167), (.tmp 169)]⟩,
 ⟨some 4, none, .mov (.tmp 170)⟩])
 .ret)
 (.seq (.ops [⟨some 172, none, .mov (.tmp 1)⟩,
 ⟨some 173, none, .bin .eql (.tmp 172) (.const (.int .i32 65533))⟩,
 ⟨some 171, none, .mov (.tmp 173)⟩])
 (.cond (.tmp 171)
 (.seq (.seq (.ops [⟨some 174, none, .mov (.tmp 0)⟩,
 ⟨some 175, none, .itr (.tmp 174)⟩])
 (.block 9 (.loop (.seq (.ops [⟨some 176, none, .nxt (.tmp 175)⟩,
 ⟨some 177, none, .ext (.tmp 176) 0⟩])
 (.seq (.cond (.tmp 177)
 .skip
 (.exit 9))
 (.block 10 (.seq (.ops [⟨some 178, none, .ext (.tmp 176) 1⟩,
 ⟨some 179, none, .ext (.tmp 176) 2⟩,
 ⟨some 5, none, .mov (.tmp 178)⟩,
 ⟨some 6, none, .mov (.tmp 179)⟩])
 (.seq (.ops [⟨some 180, none, .mov (.tmp 6)⟩,
 ⟨some 181, none, .bin .eql (.tmp 180) (.const (.int .i32 65533))⟩])
 (.cond (.tmp 181)
 (.seq (.ops [⟨some 182, none, .mov (.tmp 5)⟩,
 ⟨some 4, none, .mov (.tmp 182)⟩])
 .ret)
 .skip)))))))))
 (.seq (.ops [⟨some 4, none, .mov (.const (.int .i64 (-1)))⟩])
 .ret))
 (.seq (.ops [⟨some 184, none, .mov (.tmp 1)⟩,
 ⟨some 185, none, .call (.func 109) [(.tmp 184)]⟩,
 ⟨some 186, none, .un .not (.tmp 185)⟩,
 ⟨some 183, none, .mov (.tmp 186)⟩])
 (.cond (.tmp 183)
 (.seq (.ops [⟨some 4, none, .mov (.const (.int .i64 (-1)))⟩])
 .ret)
 (.scope (.seq (.ops [⟨some 17, none, .mov (.tmp 1)⟩,
 ⟨some 18, none, .bad⟩,
 ⟨some 7, none, .mov (.tmp 18)⟩])
 (.seq (.ops [⟨some 19, none, .mov (.tmp 7)⟩,
 ⟨some 20, none, .lns (.tmp 19)⟩,
 ⟨some 21, none, .bin .sub (.tmp 20) (.const (.int .i64 1))⟩,
 ⟨some 8, none, .mov (.tmp 21)⟩])
 (.seq (.ops [⟨some 22, none, .mov (.tmp 8)⟩,
 ⟨some 9, none, .mov (.tmp 22)⟩])
 (.seq (.ops [⟨some 10, none, .mov (.const (.int .i64 0))⟩])
 (.seq (.block 1 (.loop (.seq (.seq (.ops [⟨some 23, none, .mov (.tmp 9)⟩,
 ⟨some 24, none, .mov (.tmp 0)⟩,
 ⟨some 25, none, .lns (.tmp 24)⟩,
 ⟨some 26, none, .bin .lss (.tmp 23) (.tmp 25)⟩])
 (.cond (.tmp 26)
 .skip
 (.exit 1)))
 (.block 2 (.scope (.seq (.seq (.draw [⟨some 27, none, .mov (.tmp 0)⟩,
 ⟨some 28, none, .mov (.tmp 9)⟩,
 ⟨some 29, none, .ids (.tmp 27) (.tmp 28)⟩,
 ⟨some 30, none, .mov (.tmp 7)⟩,
 ⟨some 31, none, .mov (.tmp 8)⟩,
 ⟨some 32, none, .ids (.tmp 30) (.tmp 31)⟩,
 ⟨some 33, none, .bin .neq (.tmp 29) (.tmp 32)⟩] [(0, 1), (0, 3), (1, 3), (2, 3), (0, 4), (1, 4), (2, 4), (3, 4), (0, 5), (1, 5), (2, 5)])
 (.cond (.tmp 33)
 (.seq (.draw [⟨some 34, none, .mov (.tmp 0)⟩,
 ⟨some 35, none, .mov (.tmp 9)⟩,
 ⟨some 36, none, .bin .add (.tmp 35) (.const (.int .i64 1))⟩,
 ⟨some 37, none, .sls (.tmp 34) (some (.tmp 36)) none⟩,
 ⟨some 38, none, .mov (.tmp 7)⟩,
 ⟨some 39, none, .mov (.tmp 8)⟩,
 ⟨some 40, none, .ids (.tmp 38) (.tmp 39)⟩,
 ⟨some 41, none, .call (.func 111) [(.tmp 37), (.tmp 40)]⟩,
 ⟨some 11, none, .mov (.tmp 41)⟩] [(0, 1), (0, 2), (0, 4), (1, 4), (2, 4), (3, 4), (0, 5), (1, 5), (2, 5), (3, 5), (4, 5), (0, 6), (1, 6), (2, 6), (3, 6)])
 (.seq (.seq (.ops [⟨some 42, none, .mov (.tmp 11)⟩,
 ⟨some 43, none, .bin .lss (.tmp 42) (.const (.int .i64 0))⟩])
 (.cond (.tmp 43)
 (.seq (.ops [⟨some 4, none, .mov (.const (.int .i64 (-1)))⟩])
 .ret)
 .skip))
 (.ops [⟨some 44, none, .mov (.tmp 9)⟩,
 ⟨some 45, none, .mov (.tmp 11)⟩,
 ⟨some 46, none, .bin .add (.tmp 45) (.const (.int .i64 1))⟩,
 ⟨some 47, none, .bin .add (.tmp 44) (.tmp 46)⟩,
 ⟨some 9, none, .mov (.tmp 47)⟩])))
 .skip))
 (.seq (.seq (.ops [⟨some 12, none, .mov (.const (.int .i64 1))⟩])
 (.block 3 (.loop (.seq (.seq (.ops [⟨some 48, none, .mov (.tmp 12)⟩,
 ⟨some 49, none, .mov (.tmp 7)⟩,
 ⟨some 50, none, .lns (.tmp 49)⟩,
 ⟨some 51, none, .bin .lss (.tmp 48) (.tmp 50)⟩])
 (.cond (.tmp 51)
 .skip
 (.exit 3)))
 (.seq (.block 4 (.seq (.draw [⟨some 54, none, .mov (.tmp 0)⟩,
 ⟨some 55, none, .mov (.tmp 9)⟩,
 ⟨some 56, none, .mov (.tmp 12)⟩,
 ⟨some 57, none, .bin .sub (.tmp 55) (.tmp 56)⟩,
 ⟨some 58, none, .ids (.tmp 54) (.tmp 57)⟩,
 ⟨some 59, none, .mov (.tmp 7)⟩,
 ⟨some 60, none, .mov (.tmp 8)⟩,
 ⟨some 61, none, .mov (.tmp 12)⟩,
 ⟨some 62, none, .bin .sub (.tmp 60) (.tmp 61)⟩,
 ⟨some 63, none, .ids (.tmp 59) (.tmp 62)⟩,
 ⟨some 64, none, .bin .neq (.tmp 58) (.tmp 63)⟩] [(0, 1), (0, 2), (1, 2), (0, 3), (0, 5), (1, 5), (2, 5), (3, 5), (4, 5), (0, 6), (1, 6), (2, 6), (3, 6), (4, 6), (5, 6), (0, 7), (1, 7), (2, 7), (3, 7), (4, 7), (5, 7), (6, 7), (0, 8), (1, 8), (2, 8), (3, 8), (4, 8), (5, 8), (0, 9), (1, 9), (2, 9), (3, 9), (4, 9)])
 (.cond (.tmp 64)
 (.goto 0)
 .skip)))
 (.ops [⟨some 52, none, .mov (.tmp 12)⟩,
 ⟨some 53, none, .bin .add (.tmp 52) (.const (.int .i64 1))⟩,
 ⟨some 12, none, .mov (.tmp 53)⟩]))))))
 (.seq (.seq (.ops [⟨some 65, none, .mov (.tmp 9)⟩,
 ⟨some 66, none, .mov (.tmp 8)⟩,
 ⟨some 67, none, .bin .sub (.tmp 65) (.tmp 66)⟩,
 ⟨some 4, none, .mov (.tmp 67)⟩])
 .ret)
 (.seq (.label 0)
 (.seq (.ops [⟨some 68, none, .mov (.tmp 10)⟩,
 ⟨some 69, none, .bin .add (.tmp 68) (.const (.int .i64 1))⟩,
 ⟨some 10, none, .mov (.tmp 69)⟩])
 (.seq (.ops [⟨some 70, none, .mov (.tmp 9)⟩,
 ⟨some 71, none, .bin .add (.tmp 70) (.const (.int .i64 1))⟩,
 ⟨some 9, none, .mov (.tmp 71)⟩])
 (.seq (.ops [⟨some 72, none, .mov (.const (.bool true))⟩,
 ⟨some 73, (some (72, true)), .mov (.tmp 10)⟩,
 ⟨some 74, (some (72, true)), .mov (.tmp 9)⟩,
 ⟨some 75, (some (72, true)), .call (.func 112) [(.tmp 74)]⟩,
 ⟨some 76, (some (72, true)), .bin .gtr (.tmp 73) (.tmp 75)⟩,
 ⟨some 77, none, .pick (.tmp 72) (.tmp 76) (.const (.bool false))⟩,
 ⟨some 78, none, .mov (.tmp 77)⟩,
 ⟨some 79, (some (78, true)), .mov (.tmp 9)⟩,
 ⟨some 80, (some (78, true)), .mov (.tmp 0)⟩,
 ⟨some 81, (some (78, true)), .lns (.tmp 80)⟩,
 ⟨some 82, (some (78, true)), .bin .lss (.tmp 79) (.tmp 81)⟩,
 ⟨some 83, none, .pick (.tmp 78) (.tmp 82) (.const (.bool false))⟩,
 ⟨some 84, none, .mov (.tmp 83)⟩,
 ⟨some 85, (some (84, false)), .mov (.const (.bool false))⟩,
 ⟨some 86, (some (85, true)), .mov (.tmp 10)⟩,
 ⟨some 87, (some (85, true)), .mov (.tmp 9)⟩,
 ⟨some 88, (some (85, true)), .bin .shr (.tmp 87) (.const (.int .u64 4))⟩,
 ⟨some 89, (some (85, true)), .bin .add (.const (.int .i64 4)) (.tmp 88)⟩,
 ⟨some 90, (some (85, true)), .bin .geq (.tmp 86) (.tmp 89)⟩,
 ⟨some 91, (some (84, false)), .pick (.tmp 85) (.tmp 90) (.const (.bool false))⟩,
 ⟨some 92, (some (84, false)), .mov (.tmp 91)⟩,
 ⟨some 93, (some (92, true)), .mov (.tmp 9)⟩,
 ⟨some 94, (some (92, true)), .mov (.tmp 0)⟩,
 ⟨some 95, (some (92, true)), .lns (.tmp 94)⟩,
 ⟨some 96, (some (92, true)), .bin .lss (.tmp 93) (.tmp 95)⟩,
 ⟨some 97, (some (84, false)), .pick (.tmp 92) (.tmp 96) (.const (.bool false))⟩,
 ⟨some 98, none, .pick (.tmp 84) (.const (.bool true)) (.tmp 97)⟩])
 (.cond (.tmp 98)
 (.goto 1)
 .skip)))))))))))))
 (.seq (.seq (.ops [⟨some 4, none, .mov (.const (.int .i64 (-1)))⟩])
 .ret)
 (.seq (.label 1)
 (.seq (.cond (.const (.bool true))
 (.seq (.ops [⟨some 99, none, .mov (.tmp 0)⟩,
 ⟨some 100, none, .mov (.tmp 9)⟩,
 ⟨some 101, none, .mov (.tmp 8)⟩,
 ⟨some 102, none, .bin .sub (.tmp 100) (.tmp 101)⟩,
 ⟨some 103, none, .sls (.tmp 99) (some (.tmp 102)) none⟩,
 ⟨some 104, none, .mov (.tmp 1)⟩,
 ⟨some 105, none, .bad⟩,
 ⟨some 106, none, .call (.func 113) [(.tmp 103), (.tmp 105)]⟩,
 ⟨some 13, none, .mov (.tmp 106)⟩])
 (.seq (.ops [⟨some 107, none, .mov (.tmp 13)⟩,
 ⟨some 108, none, .bin .geq (.tmp 107) (.const (.int .i64 0))⟩])
 (.cond (.tmp 108)
 (.seq (.ops [⟨some 109, none, .mov (.tmp 9)⟩,
 ⟨some 110, none, .mov (.tmp 13)⟩,
 ⟨some 111, none, .bin .add (.tmp 109) (.tmp 110)⟩,
 ⟨some 112, none, .mov (.tmp 8)⟩,
 ⟨some 113, none, .bin .sub (.tmp 111) (.tmp 112)⟩,
 ⟨some 4, none, .mov (.tmp 113)⟩])
 .ret)
 .skip)))
 (.scope (.seq (.ops [⟨some 114, none, .mov (.tmp 7)⟩,
 ⟨some 115, none, .mov (.tmp 8)⟩,
 ⟨some 116, none, .ids (.tmp 114) (.tmp 115)⟩,
 ⟨some 14, none, .mov (.tmp 116)⟩])
 (.seq (.ops [⟨some 117, none, .mov (.tmp 7)⟩,
 ⟨some 118, none, .mov (.tmp 8)⟩,
 ⟨some 119, none, .bin .sub (.tmp 118) (.const (.int .i64 1))⟩,
 ⟨some 120, none, .ids (.tmp 117) (.tmp 119)⟩,
 ⟨some 15, none, .mov (.tmp 120)⟩])
 (.seq (.label 2)
 (.block 5 (.loop (.seq (.seq (.ops [⟨some 121, none, .mov (.tmp 9)⟩,
 ⟨some 122, none, .mov (.tmp 0)⟩,
 ⟨some 123, none, .lns (.tmp 122)⟩,
 ⟨some 124, none, .bin .lss (.tmp 121) (.tmp 123)⟩])
 (.cond (.tmp 124)
 .skip
 (.exit 5)))
 (.seq (.block 6 (.seq (.ops [⟨some 127, none, .mov (.tmp 0)⟩,
 ⟨some 128, none, .mov (.tmp 9)⟩,
 ⟨some 129, none, .ids (.tmp 127) (.tmp 128)⟩,
 ⟨some 130, none, .mov (.tmp 14)⟩,
 ⟨some 131, none, .bin .eql (.tmp 129) (.tmp 130)⟩,
 ⟨some 132, none, .mov (.tmp 131)⟩,
 ⟨some 133, (some (132, true)), .mov (.tmp 0)⟩,
 ⟨some 134, (some (132, true)), .mov (.tmp 9)⟩,
 ⟨some 135, (some (132, true)), .bin .sub (.tmp 134) (.const (.int .i64 1))⟩,
 ⟨some 136, (some (132, true)), .ids (.tmp 133) (.tmp 135)⟩,
 ⟨some 137, (some (132, true)), .mov (.tmp 15)⟩,
 ⟨some 138, (some (132, true)), .bin .eql (.tmp 136) (.tmp 137)⟩,
 ⟨some 139, none, .pick (.tmp 132) (.tmp 138) (.const (.bool false))⟩])
 (.cond (.tmp 139)
 (.seq (.seq (.ops [⟨some 16, none, .mov (.const (.int .i64 2))⟩])
 (.block 7 (.loop (.seq (.seq (.ops [⟨some 140, none, .mov (.tmp 16)⟩,
 ⟨some 141, none, .mov (.tmp 7)⟩,
 ⟨some 142, none, .lns (.tmp 141)⟩,
 ⟨some 143, none, .bin .lss (.tmp 140) (.tmp 142)⟩])
 (.cond (.tmp 143)
 .skip
 (.exit 7)))
 (.seq (.block 8 (.seq (.draw [⟨some 146, none, .mov (.tmp 0)⟩,
 ⟨some 147, none, .mov (.tmp 9)⟩,
 ⟨some 148, none, .mov (.tmp 16)⟩,
 ⟨some 149, none, .bin .sub (.tmp 147) (.tmp 148)⟩,
 ⟨some 150, none, .ids (.tmp 146) (.tmp 149)⟩,
 ⟨some 151, none, .mov (.tmp 7)⟩,
 ⟨some 152, none, .mov (.tmp 8)⟩,
 ⟨some 153, none, .mov (.tmp 16)⟩,
 ⟨some 154, none, .bin .sub (.tmp 152) (.tmp 153)⟩,
 ⟨some 155, none, .ids (.tmp 151) (.tmp 154)⟩,
 ⟨some 156, none, .bin .neq (.tmp 150) (.tmp 155)⟩] [(0, 1), (0, 2), (1, 2), (0, 3), (0, 5), (1, 5), (2, 5), (3, 5), (4, 5), (0, 6), (1, 6), (2, 6), (3, 6), (4, 6), (5, 6), (0, 7), (1, 7), (2, 7), (3, 7), (4, 7), (5, 7), (6, 7), (0, 8), (1, 8), (2, 8), (3, 8), (4, 8), (5, 8), (0, 9), (1, 9), (2, 9), (3, 9), (4, 9)])
 (.cond (.tmp 156)
 (.exit 6)
 .skip)))
 (.ops [⟨some 144, none, .mov (.tmp 16)⟩,
 ⟨some 145, none, .bin .add (.tmp 144) (.const (.int .i64 1))⟩,
 ⟨some 16, none, .mov (.tmp 145)⟩]))))))
 (.seq (.ops [⟨some 157, none, .mov (.tmp 9)⟩,
 ⟨some 158, none, .mov (.tmp 8)⟩,
 ⟨some 159, none, .bin .sub (.tmp 157) (.tmp 158)⟩,
 ⟨some 4, none, .mov (.tmp 159)⟩])
 .ret))
 .skip)))
 (.ops [⟨some 125, none, .mov (.tmp 9)⟩,
 ⟨some 126, none, .bin .add (.tmp 125) (.const (.int .i64 1))⟩,
 ⟨some 9, none, .mov (.tmp 126)⟩]))))))))))
 (.seq (.ops [⟨some 4, none, .mov (.const (.int .i64 (-1)))⟩])
 .ret))))))))))))))))))⟩
theorem ok104 : compF Tryz.prog Tryz.f104 = some c104 := by kernel_rfl
def c105 : CF := ⟨5, [.tmp 2],
 (.seq (.ops [⟨some 2, none, .mov (.const (.bool false))⟩])
 (.seq (.ops [⟨some 3, none, .mov (.tmp 0)⟩,
 ⟨some 4, none, .bin .gtr (.tmp 3) (.const (.int .i64 8))⟩,
 ⟨some 2, none, .mov (.tmp 4)⟩])
 .ret))⟩
theorem ok105 : compF Tryz.prog Tryz.f105 = some c105 := by kernel_rfl
def c106 : CF := ⟨25, [.tmp 2],
 (.seq (.ops [⟨some 2, none, .mov (.const (.int .i64 0))⟩])
 (.seq (.block 0 (.seq (.ops [⟨some 4, none, .mov (.tmp 0)⟩,
 ⟨some 5, none, .bin .lss (.tmp 4) (.const (.int .i32 0))⟩,
 ⟨some 3, none, .mov (.tmp 5)⟩])
 (.cond (.tmp 3)
 (.seq (.ops [⟨some 2, none, .mov (.const (.int .i64 (-1)))⟩])
 .ret)
 (.seq (.ops [⟨some 7, none, .mov (.tmp 0)⟩,
 ⟨some 8, none, .bin .leq (.tmp 7) (.const (.int .i32 127))⟩,
 ⟨some 6, none, .mov (.tmp 8)⟩])
 (.cond (.tmp 6)
 (.seq (.ops [⟨some 2, none, .mov (.const (.int .i64 1))⟩])
 .ret)
 (.seq (.ops [⟨some 10, none, .mov (.tmp 0)⟩,
 ⟨some 11, none, .bin .leq (.tmp 10) (.const (.int .i32 2047))⟩,
 ⟨some 9, none, .mov (.tmp 11)⟩])
 (.cond (.tmp 9)
 (.seq (.ops [⟨some 2, none, .mov (.const (.int .i64 2))⟩])
 .ret)
 (.seq (.ops [⟨some 13, none, .mov (.tmp 0)⟩,
 ⟨some 14, none, .bin .leq (.const (.int .i32 55296)) (.tmp 13)⟩,
 ⟨some 15, none, .mov (.tmp 14)⟩,
 ⟨some 16, (some (15, true)), .mov (.tmp 0)⟩,
 ⟨some 17, (some (15, true)), .bin .leq (.tmp 16) (.const (.int .i32 57343))⟩,
 ⟨some 18, none, .pick (.tmp 15) (.tmp 17) (.const (.bool false))⟩,
 ⟨some 12, none, .mov (.tmp 18)⟩])
 (.cond (.tmp 12)
 (.seq (.ops [⟨some 2, none, .mov (.const (.int .i64 (-1)))⟩])
 .ret)
 (.seq (.ops [⟨some 20, none, .mov (.tmp 0)⟩,
 ⟨some 21, none, .bin .leq (.tmp 20) (.const (.int .i32 65535))⟩,
 ⟨some 19, none, .mov (.tmp 21)⟩])
 (.cond (.tmp 19)
 (.seq (.ops [⟨some 2, none, .mov (.const (.int .i64 3))⟩])
 .ret)
 (.seq (.ops [⟨some 23, none, .mov (.tmp 0)⟩,
 ⟨some 24, none, .bin .leq (.tmp 23) (.const (.int .i32 1114111))⟩,
 ⟨some 22, none, .mov (.tmp 24)⟩])
 (.cond (.tmp 22)
 (.seq (.ops [⟨some 2, none, .mov (.const (.int .i64 4))⟩])
 .ret)
 .skip)))))))))))))
 (.seq (.ops [⟨some 2, none, .mov (.const (.int .i64 (-1)))⟩])
 .ret)))⟩
theorem ok106 : compF Tryz.prog Tryz.f106 = some c106 := by kernel_rfl
def c107 : CF := ⟨37, [.tmp 4, .tmp 5, .tmp 6],
 (.seq (.ops [⟨some 4, none, .mov (.const (.int .i32 0))⟩,
 ⟨some 5, none, .mov (.const (.int .i64 0))⟩,
 ⟨some 6, none, .mov (.const (.int .i64 0))⟩])
 (.seq (.seq (.ops [⟨some 7, none, .mov (.tmp 1)⟩,
 ⟨some 8, none, .bin .lss (.tmp 7) (.const (.int .i64 0))⟩,
 ⟨some 9, none, .mov (.tmp 8)⟩,
 ⟨some 10, (some (9, false)), .mov (.tmp 1)⟩,
 ⟨some 11, (some (9, false)), .mov (.tmp 0)⟩,
 ⟨some 12, (some (9, false)), .lnl (.tmp 11)⟩,
 ⟨some 13, (some (9, false)), .bin .geq (.tmp 10) (.tmp 12)⟩,
 ⟨some 14, none, .pick (.tmp 9) (.const (.bool true)) (.tmp 13)⟩])
 (.cond (.tmp 14)
 (.seq (.ops [⟨some 4, none, .mov (.const (.int .i32 0))⟩,
 ⟨some 5, none, .mov (.const (.int .i64 0))⟩,
 ⟨some 6, none, .mov (.const (.int .i64 7))⟩])
 .ret)
 .skip))
 (.seq (.ops [⟨some 16, none, .mov (.tmp 0)⟩,
 ⟨some 17, none, .mov (.tmp 1)⟩,
 ⟨some 18, none, .sl 1 (.tmp 16) (some (.tmp 17)) none none⟩,
 ⟨some 19, none, .call (.func 114) [(.tmp 18)]⟩,
 ⟨some 15, none, .mov (.tmp 19)⟩,
 ⟨some 20, none, .ext (.tmp 15) 0⟩,
 ⟨some 21, none, .ext (.tmp 15) 1⟩,
 ⟨some 4, none, .mov (.tmp 20)⟩,
 ⟨some 5, none, .mov (.tmp 21)⟩])
 (.seq (.block 0 (.seq (.ops [⟨some 23, none, .mov (.tmp 4)⟩,
 ⟨some 24, none, .bin .neq (.tmp 23) (.const (.int .i32 65533))⟩,
 ⟨some 25, none, .mov (.tmp 24)⟩,
 ⟨some 26, (some (25, false)), .mov (.tmp 5)⟩,
 ⟨some 27, (some (25, false)), .bin .gtr (.tmp 26) (.const (.int .i64 1))⟩,
 ⟨some 28, none, .pick (.tmp 25) (.const (.bool true)) (.tmp 27)⟩,
 ⟨some 22, none, .mov (.tmp 28)⟩])
 (.cond (.tmp 22)
 (.seq (.ops [⟨some 29, none, .mov (.tmp 4)⟩,
 ⟨some 30, none, .mov (.tmp 5)⟩,
 ⟨some 4, none, .mov (.tmp 29)⟩,
 ⟨some 5, none, .mov (.tmp 30)⟩,
 ⟨some 6, none, .mov (.const (.int .i64 0))⟩])
 .ret)
 (.seq (.ops [⟨some 32, none, .mov (.tmp 0)⟩,
 ⟨some 33, none, .mov (.tmp 1)⟩,
 ⟨some 34, none, .sl 1 (.tmp 32) (some (.tmp 33)) none none⟩,
 ⟨some 35, none, .call (.func 115) [(.tmp 34)]⟩,
 ⟨some 36, none, .un .not (.tmp 35)⟩,
 ⟨some 31, none, .mov (.tmp 36)⟩])
 (.cond (.tmp 31)
 (.seq (.ops [⟨some 4, none, .mov (.const (.int .i32 0))⟩,
 ⟨some 5, none, .mov (.const (.int .i64 0))⟩,
 ⟨some 6, none, .mov (.const (.int .i64 320))⟩])
 .ret)
 .skip)))))
 (.seq (.ops [⟨some 4, none, .mov (.const (.int .i32 0))⟩,
 ⟨some 5, none, .mov (.const (.int .i64 0))⟩,
 ⟨some 6, none, .mov (.const (.int .i64 6))⟩])
 .ret)))))⟩
theorem ok107 : compF Tryz.prog Tryz.f107 = some c107 := by kernel_rfl
def c108 : CF := ⟨30, [],
 (.seq (.ops [⟨some 3, none, .mov (.const (.int .i64 0))⟩])
 (.block 0 (.loop (.seq (.seq (.ops [⟨some 7, none, .mov (.tmp 3)⟩,
 ⟨some 8, none, .ld1 (.tmp 1)⟩,
 ⟨some 9, none, .lnl (.tmp 8)⟩,
 ⟨some 10, none, .bin .lss (.tmp 7) (.tmp 9)⟩])
 (.cond (.tmp 10)
 .skip
 (.exit 0)))
 (.block 1 (.seq (.ops [⟨some 12, none, .ld1 (.tmp 1)⟩,
 ⟨some 13, none, .mov (.tmp 3)⟩,
 ⟨some 14, none, .call (.func 107) [(.tmp 12), (.tmp 13)]⟩,
 ⟨some 11, none, .mov (.tmp 14)⟩,
 ⟨some 15, none, .ext (.tmp 11) 0⟩,
 ⟨some 16, none, .ext (.tmp 11) 1⟩,
 ⟨some 17, none, .ext (.tmp 11) 2⟩,
 ⟨some 4, none, .mov (.tmp 15)⟩,
 ⟨some 5, none, .mov (.tmp 16)⟩,
 ⟨some 6, none, .mov (.tmp 17)⟩])
 (.seq (.seq (.ops [⟨some 18, none, .mov (.tmp 6)⟩,
 ⟨some 19, none, .bin .neq (.tmp 18) (.const (.int .i64 0))⟩,
 ⟨some 20, none, .mov (.tmp 19)⟩,
 ⟨some 21, (some (20, false)), .mov (.tmp 0)⟩,
 ⟨some 22, (some (20, false)), .mov (.tmp 3)⟩,
 ⟨some 23, (some (20, false)), .mov (.tmp 4)⟩,
 ⟨some 24, (some (20, false)), .call (.tmp 21) [(.tmp 22), (.tmp 23)]⟩,
 ⟨some 25, (some (20, false)), .un .not (.tmp 24)⟩,
 ⟨some 26, none, .pick (.tmp 20) (.const (.bool true)) (.tmp 25)⟩])
 (.cond (.tmp 26)
 .ret
 .skip))
 (.ops [⟨some 27, none, .mov (.tmp 3)⟩,
 ⟨some 28, none, .mov (.tmp 5)⟩,
 ⟨some 29, none, .bin .add (.tmp 27) (.tmp 28)⟩,
 ⟨some 3, none, .mov (.tmp 29)⟩]))))))))⟩
theorem ok108 : compF Tryz.prog Tryz.f108 = some c108 := by kernel_rfl
def c109 : CF := ⟨17, [.tmp 2],
 (.seq (.ops [⟨some 2, none, .mov (.const (.bool false))⟩])
 (.seq (.block 0 (.seq (.ops [⟨some 4, none, .mov (.tmp 0)⟩,
 ⟨some 5, none, .bin .leq (.const (.int .i32 0)) (.tmp 4)⟩,
 ⟨some 6, none, .mov (.tmp 5)⟩,
 ⟨some 7, (some (6, true)), .mov (.tmp 0)⟩,
 ⟨some 8, (some (6, true)), .bin .lss (.tmp 7) (.const (.int .i32 55296))⟩,
 ⟨some 9, none, .pick (.tmp 6) (.tmp 8) (.const (.bool false))⟩,
 ⟨some 3, none, .mov (.tmp 9)⟩])
 (.cond (.tmp 3)
 (.seq (.ops [⟨some 2, none, .mov (.const (.bool true))⟩])
 .ret)
 (.seq (.ops [⟨some 11, none, .mov (.tmp 0)⟩,
 ⟨some 12, none, .bin .lss (.const (.int .i32 57343)) (.tmp 11)⟩,
 ⟨some 13, none, .mov (.tmp 12)⟩,
 ⟨some 14, (some (13, true)), .mov (.tmp 0)⟩,
 ⟨some 15, (some (13, true)), .bin .leq (.tmp 14) (.const (.int .i32 1114111))⟩,
 ⟨some 16, none, .pick (.tmp 13) (.tmp 15) (.const (.bool false))⟩,
 ⟨some 10, none, .mov (.tmp 16)⟩])
 (.cond (.tmp 10)
 (.seq (.ops [⟨some 2, none, .mov (.const (.bool true))⟩])
 .ret)
 .skip)))))
 (.seq (.ops [⟨some 2, none, .mov (.const (.bool false))⟩])
 .ret)))⟩
theorem ok109 : compF Tryz.prog Tryz.f109 = some c109 := by kernel_rfl
def c110 : CF := ⟨117, [.tmp 2, .tmp 3],
 (.seq (.ops [⟨some 2, none, .mov (.const (.int .i32 0))⟩,
 ⟨some 3, none, .mov (.const (.int .i64 0))⟩])
 (.seq (.ops [⟨some 13, none, .mov (.tmp 0)⟩,
 ⟨some 14, none, .lns (.tmp 13)⟩,
 ⟨some 4, none, .mov (.tmp 14)⟩])
 (.seq (.seq (.ops [⟨some 15, none, .mov (.tmp 4)⟩,
 ⟨some 16, none, .bin .lss (.tmp 15) (.const (.int .i64 1))⟩])
 (.cond (.tmp 16)
 (.seq (.ops [⟨some 2, none, .mov (.const (.int .i32 65533))⟩,
 ⟨some 3, none, .mov (.const (.int .i64 0))⟩])
 .ret)
 .skip))
 (.seq (.ops [⟨some 17, none, .mov (.tmp 0)⟩,
 ⟨some 18, none, .ids (.tmp 17) (.const (.int .i64 0))⟩,
 ⟨some 5, none, .mov (.tmp 18)⟩])
 (.seq (.ops [⟨some 19, none, .mov (.tmp 5)⟩,
 ⟨some 20, none, .iaa 256 1 (.global 1) (.tmp 19)⟩,
 ⟨some 21, none, .ld1 (.tmp 20)⟩,
 ⟨some 6, none, .mov (.tmp 21)⟩])
 (.seq (.seq (.ops [⟨some 22, none, .mov (.tmp 6)⟩,
 ⟨some 23, none, .bin .geq (.tmp 22) (.const (.int .u8 240))⟩])
 (.cond (.tmp 23)
 (.seq (.ops [⟨some 24, none, .mov (.tmp 6)⟩,
 ⟨some 25, none, .cvi .i32 (.tmp 24)⟩,
 ⟨some 26, none, .bin .shl (.tmp 25) (.const (.int .u64 31))⟩,
 ⟨some 27, none, .bin .shr (.tmp 26) (.const (.int .u64 31))⟩,
 ⟨some 7, none, .mov (.tmp 27)⟩])
 (.seq (.ops [⟨some 28, none, .mov (.tmp 0)⟩,
 ⟨some 29, none, .ids (.tmp 28) (.const (.int .i64 0))⟩,
 ⟨some 30, none, .cvi .i32 (.tmp 29)⟩,
 ⟨some 31, none, .mov (.tmp 7)⟩,
 ⟨some 32, none, .bin .andNot (.tmp 30) (.tmp 31)⟩,
 ⟨some 33, none, .mov (.tmp 7)⟩,
 ⟨some 34, none, .bin .and (.const (.int .i32 65533)) (.tmp 33)⟩,
 ⟨some 35, none, .bin .or (.tmp 32) (.tmp 34)⟩,
 ⟨some 2, none, .mov (.tmp 35)⟩,
 ⟨some 3, none, .mov (.const (.int .i64 1))⟩])
 .ret))
 .skip))
 (.seq (.ops [⟨some 36, none, .mov (.tmp 6)⟩,
 ⟨some 37, none, .bin .and (.tmp 36) (.const (.int .u8 7))⟩,
 ⟨some 38, none, .cvi .i64 (.tmp 37)⟩,
 ⟨some 8, none, .mov (.tmp 38)⟩])
 (.seq (.ops [⟨some 39, none, .mov (.tmp 6)⟩,
 ⟨some 40, none, .bin .shr (.tmp 39) (.const (.int .u64 4))⟩,
 ⟨some 41, none, .iaa 16 2 (.global 2) (.tmp 40)⟩,
 ⟨some 42, none, .ld 2 (.tmp 41)⟩,
 ⟨some 9, none, .newz [(.int .u8 0), (.int .u8 0)]⟩,
 ⟨none, none, .st 2 (.tmp 9) (.tmp 42)⟩])
 (.seq (.seq (.ops [⟨some 43, none, .mov (.tmp 4)⟩,
 ⟨some 44, none, .mov (.tmp 8)⟩,
 ⟨some 45, none, .bin .lss (.tmp 43) (.tmp 44)⟩])
 (.cond (.tmp 45)
 (.seq (.ops [⟨some 2, none, .mov (.const (.int .i32 65533))⟩,
 ⟨some 3, none, .mov (.const (.int .i64 1))⟩])
 .ret)
 .skip))
 (.seq (.ops [⟨some 46, none, .mov (.tmp 0)⟩,
 ⟨some 47, none, .ids (.tmp 46) (.const (.int .i64 1))⟩,
 ⟨some 10, none, .mov (.tmp 47)⟩])
 (.seq (.seq (.ops [⟨some 48, none, .mov (.tmp 10)⟩,
 ⟨some 49, none, .fad (.tmp 9) 0⟩,
 ⟨some 50, none, .ld1 (.tmp 49)⟩,
 ⟨some 51, none, .bin .lss (.tmp 48) (.tmp 50)⟩,
 ⟨some 52, none, .mov (.tmp 51)⟩,
 ⟨some 53, (some (52, false)), .fad (.tmp 9) 1⟩,
 ⟨some 54, (some (52, false)), .ld1 (.tmp 53)⟩,
 ⟨some 55, (some (52, false)), .mov (.tmp 10)⟩,
 ⟨some 56, (some (52, false)), .bin .lss (.tmp 54) (.tmp 55)⟩,
 ⟨some 57, none, .pick (.tmp 52) (.const (.bool true)) (.tmp 56)⟩])
 (.cond (.tmp 57)
 (.seq (.ops [⟨some 2, none, .mov (.const (.int .i32 65533))⟩,
 ⟨some 3, none, .mov (.const (.int .i64 1))⟩])
 .ret)
 .skip))
 (.seq (.seq (.ops [⟨some 58, none, .mov (.tmp 8)⟩,
 ⟨some 59, none, .bin .leq (.tmp 58) (.const (.int .i64 2))⟩])
 (.cond (.tmp 59)
 (.seq (.ops [⟨some 60, none, .mov (.tmp 5)⟩,
 ⟨some 61, none, .bin .and (.tmp 60) (.const (.int .u8 31))⟩,
 ⟨some 62, none, .cvi .i32 (.tmp 61)⟩,
 ⟨some 63, none, .bin .shl (.tmp 62) (.const (.int .u64 6))⟩,
 ⟨some 64, none, .mov (.tmp 10)⟩,
 ⟨some 65, none, .bin .and (.tmp 64) (.const (.int .u8 63))⟩,
 ⟨some 66, none, .cvi .i32 (.tmp 65)⟩,
 ⟨some 67, none, .bin .or (.tmp 63) (.tmp 66)⟩,
 ⟨some 2, none, .mov (.tmp 67)⟩,
 ⟨some 3, none, .mov (.const (.int .i64 2))⟩])
 .ret)
 .skip))
 (.seq (.ops [⟨some 68, none, .mov (.tmp 0)⟩,
 ⟨some 69, none, .ids (.tmp 68) (.const (.int .i64 2))⟩,
 ⟨some 11, none, .mov (.tmp 69)⟩])
 (.seq (.seq (.ops [⟨some 70, none, .mov (.tmp 11)⟩,
 ⟨some 71, none, .bin .lss (.tmp 70) (.const (.int .u8 128))⟩,
 ⟨some 72, none, .mov (.tmp 71)⟩,
 ⟨some 73, (some (72, false)), .mov (.tmp 11)⟩,
 ⟨some 74, (some (72, false)), .bin .lss (.const (.int .u8 191)) (.tmp 73)⟩,
 ⟨some 75, none, .pick (.tmp 72) (.const (.bool true)) (.tmp 74)⟩])
 (.cond (.tmp 75)
 (.seq (.ops [⟨some 2, none, .mov (.const (.int .i32 65533))⟩,
 ⟨some 3, none, .mov (.const (.int .i64 1))⟩])
 .ret)
 .skip))
 (.seq (.seq (.ops [⟨some 76, none, .mov (.tmp 8)⟩,
 ⟨some 77, none, .bin .leq (.tmp 76) (.const (.int .i64 3))⟩])
 (.cond (.tmp 77)
 (.seq (.ops [⟨some 78, none, .mov (.tmp 5)⟩,
 ⟨some 79, none, .bin .and (.tmp 78) (.const (.int .u8 15))⟩,
 ⟨some 80, none, .cvi .i32 (.tmp 79)⟩,
 ⟨some 81, none, .bin .shl (.tmp 80) (.const (.int .u64 12))⟩,
 ⟨some 82, none, .mov (.tmp 10)⟩,
 ⟨some 83, none, .bin .and (.tmp 82) (.const (.int .u8 63))⟩,
 ⟨some 84, none, .cvi .i32 (.tmp 83)⟩,
 ⟨some 85, none, .bin .shl (.tmp 84) (.const (.int .u64 6))⟩,
 ⟨some 86, none, .bin .or (.tmp 81) (.tmp 85)⟩,
 ⟨some 87, none, .mov (.tmp 11)⟩,
 ⟨some 88, none, .bin .and (.tmp 87) (.const (.int .u8 63))⟩,
 ⟨some 89, none, .cvi .i32 (.tmp 88)⟩,
 ⟨some 90, none, .bin .or (.tmp 86) (.tmp 89)⟩,
 ⟨some 2, none, .mov (.tmp 90)⟩,
 ⟨some 3, none, .mov (.const (.int .i64 3))⟩])
 .ret)
 .skip))
 (.seq (.ops [⟨some 91, none, .mov (.tmp 0)⟩,
 ⟨some 92, none, .ids (.tmp 91) (.const (.int .i64 3))⟩,
 ⟨some 12, none, .mov (.tmp 92)⟩])
 (.seq (.seq (.ops [⟨some 93, none, .mov (.tmp 12)⟩,
 ⟨some 94, none, .bin .lss (.tmp 93) (.const (.int .u8 128))⟩,
 ⟨some 95, none, .mov (.tmp 94)⟩,
 ⟨some 96, (some (95, false)), .mov (.tmp 12)⟩,
 ⟨some 97, (some (95, false)), .bin .lss (.const (.int .u8 191)) (.tmp 96)⟩,
 ⟨some 98, none, .pick (.tmp 95) (.const (.bool true)) (.tmp 97)⟩])
 (.cond (.tmp 98)
 (.seq (.ops [⟨some 2, none, .mov (.const (.int .i32 65533))⟩,
 ⟨some 3, none, .mov (.const (.int .i64 1))⟩])
 .ret)
 .skip))
 (.seq (.ops [⟨some 99, none, .mov (.tmp 5)⟩,
 ⟨some 100, none, .bin .and (.tmp 99) (.const (.int .u8 7))⟩,
 ⟨some 101, none, .cvi .i32 (.tmp 100)⟩,
 ⟨some 102, none, .bin .shl (.tmp 101) (.const (.int .u64 18))⟩,
 ⟨some 103, none, .mov (.tmp 10)⟩,
 ⟨some 104, none, .bin .and (.tmp 103) (.const (.int .u8 63))⟩,
 ⟨some 105, none, .cvi .i32 (.tmp 104)⟩,
 ⟨some 106, none, .bin .shl (.tmp 105) (.const (.int .u64 12))⟩,
 ⟨some 107, none, .bin .or (.tmp 102) (.tmp 106)⟩,
 ⟨some 108, none, .mov (.tmp 11)⟩,
 ⟨some 109, none, .bin .and (.tmp 108) (.const (.int .u8 63))⟩,
 ⟨some 110, none, .cvi .i32 (.tmp 109)⟩,
 ⟨some 111, none, .bin .shl (.tmp 110) (.const (.int .u64 6))⟩,
 ⟨some 112, none, .bin .or (.tmp 107) (.tmp 111)⟩,
 ⟨some 113, none, .mov (.tmp 12)⟩,
 ⟨some 114, none, .bin .and (.tmp 113) (.const (.int .u8 63))⟩,
 ⟨some 115, none, .cvi .i32 (.tmp 114)⟩,
 ⟨some 116, none, .bin .or (.tmp 112) (.tmp 115)⟩,
 ⟨some 2, none, .mov (.tmp 116)⟩,
 ⟨some 3, none, .mov (.const (.int .i64 4))⟩])
 .ret))))))))))))))))))⟩
theorem ok110 : compF Tryz.prog Tryz.f110 = some c110 := by kernel_rfl
def c111 : CF := ⟨8, [.tmp 4],
 (.seq (.ops [⟨some 4, none, .mov (.const (.int .i64 0))⟩])
 (.seq (.ops [⟨some 5, none, .mov (.tmp 0)⟩,
 ⟨some 6, none, .mov (.tmp 1)⟩,
 ⟨some 7, none, .call (.func 116) [(.tmp 5), (.tmp 6)]⟩,
 ⟨some 4, none, .mov (.tmp 7)⟩])
 .ret))⟩
theorem ok111 : compF Tryz.prog Tryz.f111 = some c111 := by kernel_rfl
def c112 : CF := ⟨6, [.tmp 2],
 (.seq (.ops [⟨some 2, none, .mov (.const (.int .i64 0))⟩])
 (.seq (.ops [⟨some 3, none, .mov (.tmp 0)⟩,
 ⟨some 4, none, .bin .add (.tmp 3) (.const (.int .i64 16))⟩,
 ⟨some 5, none, .bin .quo (.tmp 4) (.const (.int .i64 8))⟩,
 ⟨some 2, none, .mov (.tmp 5)⟩])
 .ret))⟩
theorem ok112 : compF Tryz.prog Tryz.f112 = some c112 := by kernel_rfl
def c114 : CF := ⟨22, [.tmp 2, .tmp 3],
 (.seq (.ops [⟨some 2, none, .mov (.const (.int .i32 0))⟩,
 ⟨some 3, none, .mov (.const (.int .i64 0))⟩])
 (.seq (.seq (.ops [⟨some 6, none, .mov (.tmp 0)⟩,
 ⟨some 7, none, .lnl (.tmp 6)⟩,
 ⟨some 8, none, .mov (.const (.int .i64 0))⟩])
 (.block 0 (.loop (.seq (.ops [⟨some 9, none, .bin .lss (.tmp 8) (.tmp 7)⟩])
 (.seq (.cond (.tmp 9)
 .skip
 (.exit 0))
 (.seq (.block 1 (.seq (.ops [⟨some 10, none, .iad 1 (.tmp 6) (.tmp 8)⟩,
 ⟨some 11, none, .ld1 (.tmp 10)⟩,
 ⟨some 5, none, .mov (.tmp 11)⟩])
 (.seq (.seq (.ops [⟨some 12, none, .mov (.tmp 5)⟩,
 ⟨some 13, none, .bin .lss (.tmp 12) (.const (.int .u8 128))⟩])
 (.cond (.tmp 13)
 (.seq (.ops [⟨some 14, none, .mov (.tmp 5)⟩,
 ⟨some 15, none, .cvi .i32 (.tmp 14)⟩,
 ⟨some 2, none, .mov (.tmp 15)⟩,
 ⟨some 3, none, .mov (.const (.int .i64 1))⟩])
 .ret)
 .skip))
 (.exit 0))))
 (.ops [⟨some 16, none, .bin .add (.tmp 8) (.const (.int .i64 1))⟩,
 ⟨some 8, none, .mov (.tmp 16)⟩])))))))
 (.seq (.ops [⟨some 18, none, .mov (.tmp 0)⟩,
 ⟨some 19, none, .call (.func 117) [(.tmp 18)]⟩,
 ⟨some 17, none, .mov (.tmp 19)⟩,
 ⟨some 20, none, .ext (.tmp 17) 0⟩,
 ⟨some 21, none, .ext (.tmp 17) 1⟩,
 ⟨some 2, none, .mov (.tmp 20)⟩,
 ⟨some 3, none, .mov (.tmp 21)⟩])
 .ret)))⟩
theorem ok114 : compF Tryz.prog Tryz.f114 = some c114 := by kernel_rfl
def c115 : CF := ⟨56, [.tmp 2],
 (.seq (.ops [⟨some 2, none, .mov (.const (.bool false))⟩])
 (.seq (.ops [⟨some 6, none, .mov (.tmp 0)⟩,
 ⟨some 7, none, .lnl (.tmp 6)⟩,
 ⟨some 3, none, .mov (.tmp 7)⟩])
 (.seq (.seq (.ops [⟨some 8, none, .mov (.tmp 3)⟩,
 ⟨some 9, none, .bin .eql (.tmp 8) (.const (.int .i64 0))⟩])
 (.cond (.tmp 9)
 (.seq (.ops [⟨some 2, none, .mov (.const (.bool false))⟩])
 .ret)
 .skip))
 (.seq (.ops [⟨some 10, none, .mov (.tmp 0)⟩,
 ⟨some 11, none, .iad 1 (.tmp 10) (.const (.int .i64 0))⟩,
 ⟨some 12, none, .ld1 (.tmp 11)⟩,
 ⟨some 13, none, .iaa 256 1 (.global 1) (.tmp 12)⟩,
 ⟨some 14, none, .ld1 (.tmp 13)⟩,
 ⟨some 4, none, .mov (.tmp 14)⟩])
 (.seq (.seq (.ops [⟨some 15, none, .mov (.tmp 3)⟩,
 ⟨some 16, none, .mov (.tmp 4)⟩,
 ⟨some 17, none, .bin .and (.tmp 16) (.const (.int .u8 7))⟩,
 ⟨some 18, none, .cvi .i64 (.tmp 17)⟩,
 ⟨some 19, none, .bin .geq (.tmp 15) (.tmp 18)⟩])
 (.cond (.tmp 19)
 (.seq (.ops [⟨some 2, none, .mov (.const (.bool true))⟩])
 .ret)
 .skip))
 (.seq (.ops [⟨some 20, none, .mov (.tmp 4)⟩,
 ⟨some 21, none, .bin .shr (.tmp 20) (.const (.int .u64 4))⟩,
 ⟨some 22, none, .iaa 16 2 (.global 2) (.tmp 21)⟩,
 ⟨some 23, none, .ld 2 (.tmp 22)⟩,
 ⟨some 5, none, .newz [(.int .u8 0), (.int .u8 0)]⟩,
 ⟨none, none, .st 2 (.tmp 5) (.tmp 23)⟩])
 (.seq (.seq (.draw [⟨some 24, none, .mov (.tmp 3)⟩,
 ⟨some 25, none, .bin .gtr (.tmp 24) (.const (.int .i64 1))⟩,
 ⟨some 26, none, .mov (.tmp 25)⟩,
 ⟨some 27, (some (26, true)), .mov (.tmp 0)⟩,
 ⟨some 28, (some (26, true)), .iad 1 (.tmp 27) (.const (.int .i64 1))⟩,
 ⟨some 29, (some (26, true)), .ld1 (.tmp 28)⟩,
 ⟨some 30, (some (26, true)), .fad (.tmp 5) 0⟩,
 ⟨some 31, (some (26, true)), .ld1 (.tmp 30)⟩,
 ⟨some 32, (some (26, true)), .bin .lss (.tmp 29) (.tmp 31)⟩,
 ⟨some 33, (some (26, true)), .mov (.tmp 32)⟩,
 ⟨some 34, (some (33, false)), .fad (.tmp 5) 1⟩,
 ⟨some 35, (some (33, false)), .ld1 (.tmp 34)⟩,
 ⟨some 36, (some (33, false)), .mov (.tmp 0)⟩,
 ⟨some 37, (some (33, false)), .iad 1 (.tmp 36) (.const (.int .i64 1))⟩,
 ⟨some 38, (some (33, false)), .ld1 (.tmp 37)⟩,
 ⟨some 39, (some (33, false)), .bin .lss (.tmp 35) (.tmp 38)⟩,
 ⟨some 40, (some (26, true)), .pick (.tmp 33) (.const (.bool true)) (.tmp 39)⟩,
 ⟨some 41, none, .pick (.tmp 26) (.tmp 40) (.const (.bool false))⟩] [(3, 6), (4, 6), (5, 6), (3, 7), (4, 7), (5, 7), (10, 12), (11, 12), (10, 13), (11, 13), (10, 14), (11, 14)])
 (.cond (.tmp 41)
 (.seq (.ops [⟨some 2, none, .mov (.const (.bool true))⟩])
 .ret)
 (.seq (.ops [⟨some 42, none, .mov (.tmp 3)⟩,
 ⟨some 43, none, .bin .gtr (.tmp 42) (.const (.int .i64 2))⟩,
 ⟨some 44, none, .mov (.tmp 43)⟩,
 ⟨some 45, (some (44, true)), .mov (.tmp 0)⟩,
 ⟨some 46, (some (44, true)), .iad 1 (.tmp 45) (.const (.int .i64 2))⟩,
 ⟨some 47, (some (44, true)), .ld1 (.tmp 46)⟩,
 ⟨some 48, (some (44, true)), .bin .lss (.tmp 47) (.const (.int .u8 128))⟩,
 ⟨some 49, (some (44, true)), .mov (.tmp 48)⟩,
 ⟨some 50, (some (49, false)), .mov (.tmp 0)⟩,
 ⟨some 51, (some (49, false)), .iad 1 (.tmp 50) (.const (.int .i64 2))⟩,
 ⟨some 52, (some (49, false)), .ld1 (.tmp 51)⟩,
 ⟨some 53, (some (49, false)), .bin .lss (.const (.int .u8 191)) (.tmp 52)⟩,
 ⟨some 54, (some (44, true)), .pick (.tmp 49) (.const (.bool true)) (.tmp 53)⟩,
 ⟨some 55, none, .pick (.tmp 44) (.tmp 54) (.const (.bool false))⟩])
 (.cond (.tmp 55)
 (.seq (.ops [⟨some 2, none, .mov (.const (.bool true))⟩])
 .ret)
 .skip))))
 (.seq (.ops [⟨some 2, none, .mov (.const (.bool false))⟩])
 .ret))))))))⟩
theorem ok115 : compF Tryz.prog Tryz.f115 = some c115 := by kernel_rfl
def c116 : CF := ⟨8, [.tmp 4],
 (.seq (.ops [⟨some 4, none, .mov (.const (.int .i64 0))⟩])
 (.seq (.ops [⟨some 5, none, .mov (.tmp 0)⟩,
 ⟨some 6, none, .mov (.tmp 1)⟩,
 ⟨some 7, none, .call (.func 118) [(.tmp 5), (.tmp 6)]⟩,
 ⟨some 4, none, .mov (.tmp 7)⟩])
 .ret))⟩
theorem ok116 : compF Tryz.prog Tryz.f116 = some c116 := by kernel_rfl
def c117 : CF := ⟨122, [.tmp 2, .tmp 3],
 (.seq (.ops [⟨some 2, none, .mov (.const (.int .i32 0))⟩,
 ⟨some 3, none, .mov (.const (.int .i64 0))⟩])
 (.seq (.ops [⟨some 13, none, .mov (.tmp 0)⟩,
 ⟨some 14, none, .lnl (.tmp 13)⟩,
 ⟨some 4, none, .mov (.tmp 14)⟩])
 (.seq (.seq (.ops [⟨some 15, none, .mov (.tmp 4)⟩,
 ⟨some 16, none, .bin .lss (.tmp 15) (.const (.int .i64 1))⟩])
 (.cond (.tmp 16)
 (.seq (.ops [⟨some 2, none, .mov (.const (.int .i32 65533))⟩,
 ⟨some 3, none, .mov (.const (.int .i64 0))⟩])
 .ret)
 .skip))
 (.seq (.ops [⟨some 17, none, .mov (.tmp 0)⟩,
 ⟨some 18, none, .iad 1 (.tmp 17) (.const (.int .i64 0))⟩,
 ⟨some 19, none, .ld1 (.tmp 18)⟩,
 ⟨some 5, none, .mov (.tmp 19)⟩])
 (.seq (.ops [⟨some 20, none, .mov (.tmp 5)⟩,
 ⟨some 21, none, .iaa 256 1 (.global 1) (.tmp 20)⟩,
 ⟨some 22, none, .ld1 (.tmp 21)⟩,
 ⟨some 6, none, .mov (.tmp 22)⟩])
 (.seq (.seq (.ops [⟨some 23, none, .mov (.tmp 6)⟩,
 ⟨some 24, none, .bin .geq (.tmp 23) (.const (.int .u8 240))⟩])
 (.cond (.tmp 24)
 (.seq (.ops [⟨some 25, none, .mov (.tmp 6)⟩,
 ⟨some 26, none, .cvi .i32 (.tmp 25)⟩,
 ⟨some 27, none, .bin .shl (.tmp 26) (.const (.int .u64 31))⟩,
 ⟨some 28, none, .bin .shr (.tmp 27) (.const (.int .u64 31))⟩,
 ⟨some 7, none, .mov (.tmp 28)⟩])
 (.seq (.ops [⟨some 29, none, .mov (.tmp 0)⟩,
 ⟨some 30, none, .iad 1 (.tmp 29) (.const (.int .i64 0))⟩,
 ⟨some 31, none, .ld1 (.tmp 30)⟩,
 ⟨some 32, none, .cvi .i32 (.tmp 31)⟩,
 ⟨some 33, none, .mov (.tmp 7)⟩,
 ⟨some 34, none, .bin .andNot (.tmp 32) (.tmp 33)⟩,
 ⟨some 35, none, .mov (.tmp 7)⟩,
 ⟨some 36, none, .bin .and (.const (.int .i32 65533)) (.tmp 35)⟩,
 ⟨some 37, none, .bin .or (.tmp 34) (.tmp 36)⟩,
 ⟨some 2, none, .mov (.tmp 37)⟩,
 ⟨some 3, none, .mov (.const (.int .i64 1))⟩])
 .ret))
 .skip))
 (.seq (.ops [⟨some 38, none, .mov (.tmp 6)⟩,
 ⟨some 39, none, .bin .and (.tmp 38) (.const (.int .u8 7))⟩,
 ⟨some 40, none, .cvi .i64 (.tmp 39)⟩,
 ⟨some 8, none, .mov (.tmp 40)⟩])
 (.seq (.ops [⟨some 41, none, .mov (.tmp 6)⟩,
 ⟨some 42, none, .bin .shr (.tmp 41) (.const (.int .u64 4))⟩,
 ⟨some 43, none, .iaa 16 2 (.global 2) (.tmp 42)⟩,
 ⟨some 44, none, .ld 2 (.tmp 43)⟩,
 ⟨some 9, none, .newz [(.int .u8 0), (.int .u8 0)]⟩,
 ⟨none, none, .st 2 (.tmp 9) (.tmp 44)⟩])
 (.seq (.seq (.ops [⟨some 45, none, .mov (.tmp 4)⟩,
 ⟨some 46, none, .mov (.tmp 8)⟩,
 ⟨some 47, none, .bin .lss (.tmp 45) (.tmp 46)⟩])
 (.cond (.tmp 47)
 (.seq (.ops [⟨some 2, none, .mov (.const (.int .i32 65533))⟩,
 ⟨some 3, none, .mov (.const (.int .i64 1))⟩])
 .ret)
 .skip))
 (.seq (.ops [⟨some 48, none, .mov (.tmp 0)⟩,
 ⟨some 49, none, .iad 1 (.tmp 48) (.const (.int .i64 1))⟩,
 ⟨some 50, none, .ld1 (.tmp 49)⟩,
 ⟨some 10, none, .mov (.tmp 50)⟩])
 (.seq (.seq (.ops [⟨some 51, none, .mov (.tmp 10)⟩,
 ⟨some 52, none, .fad (.tmp 9) 0⟩,
 ⟨some 53, none, .ld1 (.tmp 52)⟩,
 ⟨some 54, none, .bin .lss (.tmp 51) (.tmp 53)⟩,
 ⟨some 55, none, .mov (.tmp 54)⟩,
 ⟨some 56, (some (55, false)), .fad (.tmp 9) 1⟩,
 ⟨some 57, (some (55, false)), .ld1 (.tmp 56)⟩,
 ⟨some 58, (some (55, false)), .mov (.tmp 10)⟩,
 ⟨some 59, (some (55, false)), .bin .lss (.tmp 57) (.tmp 58)⟩,
 ⟨some 60, none, .pick (.tmp 55) (.const (.bool true)) (.tmp 59)⟩])
 (.cond (.tmp 60)
 (.seq (.ops [⟨some 2, none, .mov (.const (.int .i32 65533))⟩,
 ⟨some 3, none, .mov (.const (.int .i64 1))⟩])
 .ret)
 .skip))
 (.seq (.seq (.ops [⟨some 61, none, .mov (.tmp 8)⟩,
 ⟨some 62, none, .bin .leq (.tmp 61) (.const (.int .i64 2))⟩])
 (.cond (.tmp 62)
 (.seq (.ops [⟨some 63, none, .mov (.tmp 5)⟩,
 ⟨some 64, none, .bin .and (.tmp 63) (.const (.int .u8 31))⟩,
 ⟨some 65, none, .cvi .i32 (.tmp 64)⟩,
 ⟨some 66, none, .bin .shl (.tmp 65) (.const (.int .u64 6))⟩,
 ⟨some 67, none, .mov (.tmp 10)⟩,
 ⟨some 68, none, .bin .and (.tmp 67) (.const (.int .u8 63))⟩,
 ⟨some 69, none, .cvi .i32 (.tmp 68)⟩,
 ⟨some 70, none, .bin .or (.tmp 66) (.tmp 69)⟩,
 ⟨some 2, none, .mov (.tmp 70)⟩,
 ⟨some 3, none, .mov (.const (.int .i64 2))⟩])
 .ret)
 .skip))
 (.seq (.ops [⟨some 71, none, .mov (.tmp 0)⟩,
 ⟨some 72, none, .iad 1 (.tmp 71) (.const (.int .i64 2))⟩,
 ⟨some 73, none, .ld1 (.tmp 72)⟩,
 ⟨some 11, none, .mov (.tmp 73)⟩])
 (.seq (.seq (.ops [⟨some 74, none, .mov (.tmp 11)⟩,
 ⟨some 75, none, .bin .lss (.tmp 74) (.const (.int .u8 128))⟩,
 ⟨some 76, none, .mov (.tmp 75)⟩,
 ⟨some 77, (some (76, false)), .mov (.tmp 11)⟩,
 ⟨some 78, (some (76, false)), .bin .lss (.const (.int .u8 191)) (.tmp 77)⟩,
 ⟨some 79, none, .pick (.tmp 76) (.const (.bool true)) (.tmp 78)⟩])
 (.cond (.tmp 79)
 (.seq (.ops [⟨some 2, none, .mov (.const (.int .i32 65533))⟩,
 ⟨some 3, none, .mov (.const (.int .i64 1))⟩])
 .ret)
 .skip))
 (.seq (.seq (.ops [⟨some 80, none, .mov (.tmp 8)⟩,
 ⟨some 81, none, .bin .leq (.tmp 80) (.const (.int .i64 3))⟩])
 (.cond (.tmp 81)
 (.seq (.ops [⟨some 82, none, .mov (.tmp 5)⟩,
 ⟨some 83, none, .bin .and (.tmp 82) (.const (.int .u8 15))⟩,
 ⟨some 84, none, .cvi .i32 (.tmp 83)⟩,
 ⟨some 85, none, .bin .shl (.tmp 84) (.const (.int .u64 12))⟩,
 ⟨some 86, none, .mov (.tmp 10)⟩,
 ⟨some 87, none, .bin .and (.tmp 86) (.const (.int .u8 63))⟩,
 ⟨some 88, none, .cvi .i32 (.tmp 87)⟩,
 ⟨some 89, none, .bin .shl (.tmp 88) (.const (.int .u64 6))⟩,
 ⟨some 90, none, .bin .or (.tmp 85) (.tmp 89)⟩,
 ⟨some 91, none, .mov (.tmp 11)⟩,
 ⟨some 92, none, .bin .and (.tmp 91) (.const (.int .u8 63))⟩,
 ⟨some 93, none, .cvi .i32 (.tmp 92)⟩,
 ⟨some 94, none, .bin .or (.tmp 90) (.tmp 93)⟩,
 ⟨some 2, none, .mov (.tmp 94)⟩,
 ⟨some 3, none, .mov (.const (.int .i64 3))⟩])
 .ret)
 .skip))
 (.seq (.ops [⟨some 95, none, .mov (.tmp 0)⟩,
 ⟨some 96, none, .iad 1 (.tmp 95) (.const (.int .i64 3))⟩,
 ⟨some 97, none, .ld1 (.tmp 96)⟩,
 ⟨some 12, none, .mov (.tmp 97)⟩])
 (.seq (.seq (.ops [⟨some 98, none, .mov (.tmp 12)⟩,
 ⟨some 99, none, .bin .lss (.tmp 98) (.const (.int .u8 128))⟩,
 ⟨some 100, none, .mov (.tmp 99)⟩,
 ⟨some 101, (some (100, false)), .mov (.tmp 12)⟩,
 ⟨some 102, (some (100, false)), .bin .lss (.const (.int .u8 191)) (.tmp 101)⟩,
 ⟨some 103, none, .pick (.tmp 100) (.const (.bool true)) (.tmp 102)⟩])
 (.cond (.tmp 103)
 (.seq (.ops [⟨some 2, none, .mov (.const (.int .i32 65533))⟩,
 ⟨some 3, none, .mov (.const (.int .i64 1))⟩])
 .ret)
 .skip))
 (.seq (.ops [⟨some 104, none, .mov (.tmp 5)⟩,
 ⟨some 105, none, .bin .and (.tmp 104) (.const (.int .u8 7))⟩,
 ⟨some 106, none, .cvi .i32 (.tmp 105)⟩,
 ⟨some 107, none, .bin .shl (.tmp 106) (.const (.int .u64 18))⟩,
 ⟨some 108, none, .mov (.tmp 10)⟩,
 ⟨some 109, none, .bin .and (.tmp 108) (.const (.int .u8 63))⟩,
 ⟨some 110, none, .cvi .i32 (.tmp 109)⟩,
 ⟨some 111, none, .bin .shl (.tmp 110) (.const (.int .u64 12))⟩,
 ⟨some 112, none, .bin .or (.tmp 107) (.tmp 111)⟩,
 ⟨some 113, none, .mov (.tmp 11)⟩,
 ⟨some 114, none, .bin .and (.tmp 113) (.const (.int .u8 63))⟩,
 ⟨some 115, none, .cvi .i32 (.tmp 114)⟩,
 ⟨some 116, none, .bin .shl (.tmp 115) (.const (.int .u64 6))⟩,
 ⟨some 117, none, .bin .or (.tmp 112) (.tmp 116)⟩,
 ⟨some 118, none, .mov (.tmp 12)⟩,
 ⟨some 119, none, .bin .and (.tmp 118) (.const (.int .u8 63))⟩,
 ⟨some 120, none, .cvi .i32 (.tmp 119)⟩,
 ⟨some 121, none, .bin .or (.tmp 117) (.tmp 120)⟩,
 ⟨some 2, none, .mov (.tmp 121)⟩,
 ⟨some 3, none, .mov (.const (.int .i64 4))⟩])
 .ret))))))))))))))))))⟩
theorem ok117 : compF Tryz.prog Tryz.f117 = some c117 := by kernel_rfl
def codes : List (Nat × CF) := [(3, c3), (4, c4), (5, c5), (6, c6), (7, c7), (8, c8), (9, c9), (10, c10), (11, c11), (12, c12), (13, c13), (14, c14), (15, c15), (16, c16), (17, c17), (18, c18), (19, c19), (20, c20), (21, c21), (22, c22), (23, c23), (24, c24), (25, c25), (26, c26), (27, c27), (28, c28), (29, c29), (30, c30), (31, c31), (32, c32), (33, c33), (34, c34), (35, c35), (36, c36), (37, c37), (38, c38), (39, c39), (40, c40), (41, c41), (42, c42), (43, c43), (44, c44), (45, c45), (46, c46), (47, c47), (48, c48), (49, c49), (50, c50), (51, c51), (52, c52), (53, c53), (54, c54), (55, c55), (56, c56), (57, c57), (58, c58), (59, c59), (60, c60), (61, c61), (62, c62), (63, c63), (64, c64), (65, c65), (66, c66), (67, c67), (68, c68), (69, c69), (70, c70), (71, c71), (72, c72), (73, c73), (74, c74), (75, c75), (76, c76), (77, c77), (78, c78), (79, c79), (80, c80), (81, c81), (82, c82), (83, c83), (84, c84), (85, c85), (86, c86), (87, c87), (88, c88), (89, c89), (90, c90), (91, c91), (92, c92), (93, c93), (94, c94), (95, c95), (96, c96), (97, c97), (98, c98), (99, c99), (100, c100), (101, c101), (102, c102), (103, c103), (104, c104), (105, c105), (106, c106), (107, c107), (108, c108), (109, c109), (110, c110), (111, c111), (112, c112), (114, c114), (115, c115), (116, c116), (117, c117)]
noncomputable def code : FuncId → Option CF := fget (tabOf codes)
theorem code_ok : ∀ f cf, code f = some cf → ∃ fn, Tryz.prog.funcs[f]? = some fn ∧ compF Tryz.prog fn = some cf := by
  refine code_of_tab ?_
  refine List.forall_mem_cons.2 ⟨⟨_, Tryz.func3, ok3⟩, ?_⟩
  refine List.forall_mem_cons.2 ⟨⟨_, Tryz.func4, ok4⟩, ?_⟩
  refine List.forall_mem_cons.2 ⟨⟨_, Tryz.func5, ok5⟩, ?_⟩
  refine List.forall_mem_cons.2 ⟨⟨_, Tryz.func6, ok6⟩, ?_⟩
  refine List.forall_mem_cons.2 ⟨⟨_, Tryz.func7, ok7⟩, ?_⟩
  refine List.forall_mem_cons.2 ⟨⟨_, Tryz.func8, ok8⟩, ?_⟩
  refine List.forall_mem_cons.2 ⟨⟨_, Tryz.func9, ok9⟩, ?_⟩
  refine List.forall_mem_cons.2 ⟨⟨_, Tryz.func10, ok10⟩, ?_⟩
  refine List.forall_mem_cons.2 ⟨⟨_, Tryz.func11, ok11⟩, ?_⟩
  refine List.forall_mem_cons.2 ⟨⟨_, Tryz.func12, ok12⟩, ?_⟩
  refine List.forall_mem_cons.2 ⟨⟨_, Tryz.func13, ok13⟩, ?_⟩
  refine List.forall_mem_cons.2 ⟨⟨_, Tryz.func14, ok14⟩, ?_⟩
  refine List.forall_mem_cons.2 ⟨⟨_, Tryz.func15, ok15⟩, ?_⟩
  refine List.forall_mem_cons.2 ⟨⟨_, Tryz.func16, ok16⟩, ?_⟩
  refine List.forall_mem_cons.2 ⟨⟨_, Tryz.func17, ok17⟩, ?_⟩
  refine List.forall_mem_cons.2 ⟨⟨_, Tryz.func18, ok18⟩, ?_⟩
  refine List.forall_mem_cons.2 ⟨⟨_, Tryz.func19, ok19⟩, ?_⟩
  refine List.forall_mem_cons.2 ⟨⟨_, Tryz.func20, ok20⟩, ?_⟩
  refine List.forall_mem_cons.2 ⟨⟨_, Tryz.func21, ok21⟩, ?_⟩
  refine List.forall_mem_cons.2 ⟨⟨_, Tryz.func22, ok22⟩, ?_⟩
  refine List.forall_mem_cons.2 ⟨⟨_, Tryz.func23, ok23⟩, ?_⟩
  refine List.forall_mem_cons.2 ⟨⟨_, Tryz.func24, ok24⟩, ?_⟩
  refine List.forall_mem_cons.2 ⟨⟨_, Tryz.func25, ok25⟩, ?_⟩
  refine List.forall_mem_cons.2 ⟨⟨_, Tryz.func26, ok26⟩, ?_⟩
  refine List.forall_mem_cons.2 ⟨⟨_, Tryz.func27, ok27⟩, ?_⟩
  refine List.forall_mem_cons.2 ⟨⟨_, Tryz.func28, ok28⟩, ?_⟩
  refine List.forall_mem_cons.2 ⟨⟨_, Tryz.func29, ok29⟩, ?_⟩
  refine List.forall_mem_cons.2 ⟨⟨_, Tryz.func30, ok30⟩, ?_⟩
  refine List.forall_mem_cons.2 ⟨⟨_, Tryz.func31, ok31⟩, ?_⟩
  refine List.forall_mem_cons.2 ⟨⟨_, Tryz.func32, ok32⟩, ?_⟩
  refine List.forall_mem_cons.2 ⟨⟨_, Tryz.func33, ok33⟩, ?_⟩
  refine List.forall_mem_cons.2 ⟨⟨_, Tryz.func34, ok34⟩, ?_⟩
  refine List.forall_mem_cons.2 ⟨⟨_, Tryz.func35, ok35⟩, ?_⟩
  refine List.forall_mem_cons.2 ⟨⟨_, Tryz.func36, ok36⟩, ?_⟩
  refine List.forall_mem_cons.2 ⟨⟨_, Tryz.func37, ok37⟩, ?_⟩
  refine List.forall_mem_cons.2 ⟨⟨_, Tryz.func38, ok38⟩, ?_⟩
  refine List.forall_mem_cons.2 ⟨⟨_, Tryz.func39, ok39⟩, ?_⟩
  refine List.forall_mem_cons.2 ⟨⟨_, Tryz.func40, ok40⟩, ?_⟩
  refine List.forall_mem_cons.2 ⟨⟨_, Tryz.func41, ok41⟩, ?_⟩
  refine List.forall_mem_cons.2 ⟨⟨_, Tryz.func42, ok42⟩, ?_⟩
  refine List.forall_mem_cons.2 ⟨⟨_, Tryz.func43, ok43⟩, ?_⟩
  refine List.forall_mem_cons.2 ⟨⟨_, Tryz.func44, ok44⟩, ?_⟩
  refine List.forall_mem_cons.2 ⟨⟨_, Tryz.func45, ok45⟩, ?_⟩
  refine List.forall_mem_cons.2 ⟨⟨_, Tryz.func46, ok46⟩, ?_⟩
  refine List.forall_mem_cons.2 ⟨⟨_, Tryz.func47, ok47⟩, ?_⟩
  refine List.forall_mem_cons.2 ⟨⟨_, Tryz.func48, ok48⟩, ?_⟩
  refine List.forall_mem_cons.2 ⟨⟨_, Tryz.func49, ok49⟩, ?_⟩
  refine List.forall_mem_cons.2 ⟨⟨_, Tryz.func50, ok50⟩, ?_⟩
  refine List.forall_mem_cons.2 ⟨⟨_, Tryz.func51, ok51⟩, ?_⟩
  refine List.forall_mem_cons.2 ⟨⟨_, Tryz.func52, ok52⟩, ?_⟩
  refine List.forall_mem_cons.2 ⟨⟨_, Tryz.func53, ok53⟩, ?_⟩
  refine List.forall_mem_cons.2 ⟨⟨_, Tryz.func54, ok54⟩, ?_⟩
  refine List.forall_mem_cons.2 ⟨⟨_, Tryz.func55, ok55⟩, ?_⟩
  refine List.forall_mem_cons.2 ⟨⟨_, Tryz.func56, ok56⟩, ?_⟩
  refine List.forall_mem_cons.2 ⟨⟨_, Tryz.func57, ok57⟩, ?_⟩
  refine List.forall_mem_cons.2 ⟨⟨_, Tryz.func58, ok58⟩, ?_⟩
  refine List.forall_mem_cons.2 ⟨⟨_, Tryz.func59, ok59⟩, ?_⟩
  refine List.forall_mem_cons.2 ⟨⟨_, Tryz.func60, ok60⟩, ?_⟩
  refine List.forall_mem_cons.2 ⟨⟨_, Tryz.func61, ok61⟩, ?_⟩
  refine List.forall_mem_cons.2 ⟨⟨_, Tryz.func62, ok62⟩, ?_⟩
  refine List.forall_mem_cons.2 ⟨⟨_, Tryz.func63, ok63⟩, ?_⟩
  refine List.forall_mem_cons.2 ⟨⟨_, Tryz.func64, ok64⟩, ?_⟩
  refine List.forall_mem_cons.2 ⟨⟨_, Tryz.func65, ok65⟩, ?_⟩
  refine List.forall_mem_cons.2 ⟨⟨_, Tryz.func66, ok66⟩, ?_⟩
  refine List.forall_mem_cons.2 ⟨⟨_, Tryz.func67, ok67⟩, ?_⟩
  refine List.forall_mem_cons.2 ⟨⟨_, Tryz.func68, ok68⟩, ?_⟩
  refine List.forall_mem_cons.2 ⟨⟨_, Tryz.func69, ok69⟩, ?_⟩
  refine List.forall_mem_cons.2 ⟨⟨_, Tryz.func70, ok70⟩, ?_⟩
  refine List.forall_mem_cons.2 ⟨⟨_, Tryz.func71, ok71⟩, ?_⟩
  refine List.forall_mem_cons.2 ⟨⟨_, Tryz.func72, ok72⟩, ?_⟩
  refine List.forall_mem_cons.2 ⟨⟨_, Tryz.func73, ok73⟩, ?_⟩
  refine List.forall_mem_cons.2 ⟨⟨_, Tryz.func74, ok74⟩, ?_⟩
  refine List.forall_mem_cons.2 ⟨⟨_, Tryz.func75, ok75⟩, ?_⟩
  refine List.forall_mem_cons.2 ⟨⟨_, Tryz.func76, ok76⟩, ?_⟩
  refine List.forall_mem_cons.2 ⟨⟨_, Tryz.func77, ok77⟩, ?_⟩
  refine List.forall_mem_cons.2 ⟨⟨_, Tryz.func78, ok78⟩, ?_⟩
  refine List.forall_mem_cons.2 ⟨⟨_, Tryz.func79, ok79⟩, ?_⟩
  refine List.forall_mem_cons.2 ⟨⟨_, Tryz.func80, ok80⟩, ?_⟩
  refine List.forall_mem_cons.2 ⟨⟨_, Tryz.func81, ok81⟩, ?_⟩
  refine List.forall_mem_cons.2 ⟨⟨_, Tryz.func82, ok82⟩, ?_⟩
  refine List.forall_mem_cons.2 ⟨⟨_, Tryz.func83, ok83⟩, ?_⟩
  refine List.forall_mem_cons.2 ⟨⟨_, Tryz.func84, ok84⟩, ?_⟩
  refine List.forall_mem_cons.2 ⟨⟨_, Tryz.func85, ok85⟩, ?_⟩
  refine List.forall_mem_cons.2 ⟨⟨_, Tryz.func86, ok86⟩, ?_⟩
  refine List.forall_mem_cons.2 ⟨⟨_, Tryz.func87, ok87⟩, ?_⟩
  refine List.forall_mem_cons.2 ⟨⟨_, Tryz.func88, ok88⟩, ?_⟩
  refine List.forall_mem_cons.2 ⟨⟨_, Tryz.func89, ok89⟩, ?_⟩
  refine List.forall_mem_cons.2 ⟨⟨_, Tryz.func90, ok90⟩, ?_⟩
  refine List.forall_mem_cons.2 ⟨⟨_, Tryz.func91, ok91⟩, ?_⟩
  refine List.forall_mem_cons.2 ⟨⟨_, Tryz.func92, ok92⟩, ?_⟩
  refine List.forall_mem_cons.2 ⟨⟨_, Tryz.func93, ok93⟩, ?_⟩
  refine List.forall_mem_cons.2 ⟨⟨_, Tryz.func94, ok94⟩, ?_⟩
  refine List.forall_mem_cons.2 ⟨⟨_, Tryz.func95, ok95⟩, ?_⟩
  refine List.forall_mem_cons.2 ⟨⟨_, Tryz.func96, ok96⟩, ?_⟩
  refine List.forall_mem_cons.2 ⟨⟨_, Tryz.func97, ok97⟩, ?_⟩
  refine List.forall_mem_cons.2 ⟨⟨_, Tryz.func98, ok98⟩, ?_⟩
  refine List.forall_mem_cons.2 ⟨⟨_, Tryz.func99, ok99⟩, ?_⟩
  refine List.forall_mem_cons.2 ⟨⟨_, Tryz.func100, ok100⟩, ?_⟩
  refine List.forall_mem_cons.2 ⟨⟨_, Tryz.func101, ok101⟩, ?_⟩
  refine List.forall_mem_cons.2 ⟨⟨_, Tryz.func102, ok102⟩, ?_⟩
  refine List.forall_mem_cons.2 ⟨⟨_, Tryz.func103, ok103⟩, ?_⟩
  refine List.forall_mem_cons.2 ⟨⟨_, Tryz.func104, ok104⟩, ?_⟩
  refine List.forall_mem_cons.2 ⟨⟨_, Tryz.func105, ok105⟩, ?_⟩
  refine List.forall_mem_cons.2 ⟨⟨_, Tryz.func106, ok106⟩, ?_⟩
  refine List.forall_mem_cons.2 ⟨⟨_, Tryz.func107, ok107⟩, ?_⟩
  refine List.forall_mem_cons.2 ⟨⟨_, Tryz.func108, ok108⟩, ?_⟩
  refine List.forall_mem_cons.2 ⟨⟨_, Tryz.func109, ok109⟩, ?_⟩
  refine List.forall_mem_cons.2 ⟨⟨_, Tryz.func110, ok110⟩, ?_⟩
  refine List.forall_mem_cons.2 ⟨⟨_, Tryz.func111, ok111⟩, ?_⟩
  refine List.forall_mem_cons.2 ⟨⟨_, Tryz.func112, ok112⟩, ?_⟩
  refine List.forall_mem_cons.2 ⟨⟨_, Tryz.func114, ok114⟩, ?_⟩
  refine List.forall_mem_cons.2 ⟨⟨_, Tryz.func115, ok115⟩, ?_⟩
  refine List.forall_mem_cons.2 ⟨⟨_, Tryz.func116, ok116⟩, ?_⟩
  refine List.forall_mem_cons.2 ⟨⟨_, Tryz.func117, ok117⟩, ?_⟩
  exact fun _ h => (by cases h)
end Go.Proofs.YtjmohjemgohlpaaGreatDoor.code
