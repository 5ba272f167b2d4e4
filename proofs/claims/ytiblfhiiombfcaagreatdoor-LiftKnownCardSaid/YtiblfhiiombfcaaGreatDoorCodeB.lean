/- The code that the law reaches, as the interpreter takes it; each function's is shown to be the program's own. By an AI agent. No person has read it. -/
import Derived.Test.YtiblfhiiombfcaaGreatDoorCodeA
import Derived.Test.YtiblfhiiombfcaaGreatDoorChecked
import Derived.KernelRfl
namespace Go.Proofs.YtiblfhiiombfcaaGreatDoor.code
open Go Am
set_option maxRecDepth 100000
def c97 : CF := ⟨58, [.cells 0 125],
 (.seq (.ops [⟨some 0, none, .newz [(.int .i64 0), (.int .i64 0), (.int .i64 0), (.int .i64 0), (.slice none 0 0), (.int .i64 0), (.int .i64 0), (.int .i64 0), (.int .i64 0), (.slice none 0 0), (.int .i64 0), (.int .i64 0), (.int .i64 0), (.int .i64 0), (.slice none 0 0), (.int .i64 0), (.int .i64 0), (.int .i64 0), (.int .i64 0), (.slice none 0 0), (.int .i64 0), (.int .i64 0), (.int .i64 0), (.int .i64 0), (.slice none 0 0), (.int .i64 0), (.int .i64 0), (.int .i64 0), (.int .i64 0), (.slice none 0 0), (.int .i64 0), (.int .i64 0), (.int .i64 0), (.int .i64 0), (.slice none 0 0), (.int .i64 0), (.int .i64 0), (.int .i64 0), (.int .i64 0), (.slice none 0 0), (.int .i64 0), (.int .i64 0), (.int .i64 0), (.int .i64 0), (.slice none 0 0), (.int .i64 0), (.int .i64 0), (.int .i64 0), (.int .i64 0), (.slice none 0 0), (.int .i64 0), (.int .i64 0), (.int .i64 0), (.int .i64 0), (.slice none 0 0), (.int .i64 0), (.int .i64 0), (.int .i64 0), (.int .i64 0), (.slice none 0 0), (.int .i64 0), (.int .i64 0), (.int .i64 0), (.int .i64 0), (.slice none 0 0), (.int .i64 0), (.int .i64 0), (.int .i64 0), (.int .i64 0), (.slice none 0 0), (.int .i64 0), (.int .i64 0), (.int .i64 0), (.int .i64 0), (.slice none 0 0), (.int .i64 0), (.int .i64 0), (.int .i64 0), (.int .i64 0), (.slice none 0 0), (.int .i64 0), (.int .i64 0), (.int .i64 0), (.int .i64 0), (.slice none 0 0), (.int .i64 0), (.int .i64 0), (.int .i64 0), (.int .i64 0), (.slice none 0 0), (.int .i64 0), (.int .i64 0), (.int .i64 0), (.int .i64 0), (.slice none 0 0), (.int .i64 0), (.int .i64 0), (.int .i64 0), (.int .i64 0), (.slice none 0 0), (.int .i64 0), (.int .i64 0), (.int .i64 0), (.int .i64 0), (.slice none 0 0), (.int .i64 0), (.int .i64 0), (.int .i64 0), (.int .i64 0), (.slice none 0 0), (.int .i64 0), (.int .i64 0), (.int .i64 0), (.int .i64 0), (.slice none 0 0), (.int .i64 0), (.int .i64 0), (.int .i64 0), (.int .i64 0), (.slice none 0 0), (.int .i64 0), (.int .i64 0), (.int .i64 0), (.int .i64 0), (.slice none 0 0)]⟩])
 (.seq (.ops [⟨some 4, none, .lits [(.int .i64 0), (.int .i64 0), (.int .i64 0)] 3 [(0, 1, (.const (.int .i64 0))), (1, 1, (.const (.int .i64 6))), (2, 1, (.const (.int .i64 5)))]⟩,
 ⟨some 5, none, .lits [(.int .i64 0), (.int .i64 0)] 2 [(0, 1, (.const (.int .i64 0))), (1, 1, (.const (.int .i64 6)))]⟩,
 ⟨some 6, none, .lits [(.int .i64 0), (.int .i64 0), (.int .i64 0), (.int .i64 0)] 4 [(0, 1, (.const (.int .i64 1))), (1, 1, (.const (.int .i64 0))), (2, 1, (.const (.int .i64 6))), (3, 1, (.const (.int .i64 5)))]⟩,
 ⟨some 1, none, .mov (.tmp 4)⟩,
 ⟨some 2, none, .mov (.tmp 5)⟩,
 ⟨some 3, none, .mov (.tmp 6)⟩])
 (.seq (.draw [⟨some 7, none, .mov (.tmp 3)⟩,
 ⟨some 8, none, .agg [(.int .i64 0), (.int .i64 0), (.int .i64 0), (.int .i64 0), (.slice none 0 0)] [(0, 1, (.const (.int .i64 0))), (1, 1, (.const (.int .i64 0))), (2, 1, (.const (.int .i64 0))), (3, 1, (.const (.int .i64 0))), (4, 1, (.tmp 7))]⟩,
 ⟨some 9, none, .mov (.tmp 3)⟩,
 ⟨some 10, none, .agg [(.int .i64 0), (.int .i64 0), (.int .i64 0), (.int .i64 0), (.slice none 0 0)] [(0, 1, (.const (.int .i64 0))), (1, 1, (.const (.int .i64 0))), (2, 1, (.const (.int .i64 0))), (3, 1, (.const (.int .i64 0))), (4, 1, (.tmp 9))]⟩,
 ⟨some 11, none, .mov (.tmp 1)⟩,
 ⟨some 12, none, .agg [(.int .i64 0), (.int .i64 0), (.int .i64 0), (.int .i64 0), (.slice none 0 0)] [(0, 1, (.const (.int .i64 1))), (1, 1, (.const (.int .i64 1))), (2, 1, (.const (.int .i64 1))), (3, 1, (.const (.int .i64 1))), (4, 1, (.tmp 11))]⟩,
 ⟨some 13, none, .mov (.tmp 3)⟩,
 ⟨some 14, none, .sl 1 (.tmp 13) none (some (.const (.int .i64 1))) none⟩,
 ⟨some 15, none, .agg [(.int .i64 0), (.int .i64 0), (.int .i64 0), (.int .i64 0), (.slice none 0 0)] [(0, 1, (.const (.int .i64 0))), (1, 1, (.const (.int .i64 0))), (2, 1, (.const (.int .i64 0))), (3, 1, (.const (.int .i64 0))), (4, 1, (.tmp 14))]⟩,
 ⟨some 16, none, .mov (.tmp 3)⟩,
 ⟨some 17, none, .sl 1 (.tmp 16) none (some (.const (.int .i64 1))) none⟩,
 ⟨some 18, none, .agg [(.int .i64 0), (.int .i64 0), (.int .i64 0), (.int .i64 0), (.slice none 0 0)] [(0, 1, (.const (.int .i64 0))), (1, 1, (.const (.int .i64 (-1)))), (2, 1, (.const (.int .i64 1))), (3, 1, (.const (.int .i64 1))), (4, 1, (.tmp 17))]⟩,
 ⟨some 19, none, .mov (.tmp 2)⟩,
 ⟨some 20, none, .agg [(.int .i64 0), (.int .i64 0), (.int .i64 0), (.int .i64 0), (.slice none 0 0)] [(0, 1, (.const (.int .i64 0))), (1, 1, (.const (.int .i64 0))), (2, 1, (.const (.int .i64 0))), (3, 1, (.const (.int .i64 0))), (4, 1, (.tmp 19))]⟩,
 ⟨some 21, none, .lits [(.int .i64 0)] 1 [(0, 1, (.const (.int .i64 2)))]⟩,
 ⟨some 22, none, .agg [(.int .i64 0), (.int .i64 0), (.int .i64 0), (.int .i64 0), (.slice none 0 0)] [(0, 1, (.const (.int .i64 0))), (1, 1, (.const (.int .i64 0))), (2, 1, (.const (.int .i64 0))), (3, 1, (.const (.int .i64 0))), (4, 1, (.tmp 21))]⟩,
 ⟨some 23, none, .mov (.tmp 1)⟩,
 ⟨some 24, none, .agg [(.int .i64 0), (.int .i64 0), (.int .i64 0), (.int .i64 0), (.slice none 0 0)] [(0, 1, (.const (.int .i64 0))), (1, 1, (.const (.int .i64 0))), (2, 1, (.const (.int .i64 0))), (3, 1, (.const (.int .i64 0))), (4, 1, (.tmp 23))]⟩,
 ⟨some 25, none, .mov (.tmp 1)⟩,
 ⟨some 26, none, .agg [(.int .i64 0), (.int .i64 0), (.int .i64 0), (.int .i64 0), (.slice none 0 0)] [(0, 1, (.const (.int .i64 1))), (1, 1, (.const (.int .i64 (-1)))), (2, 1, (.const (.int .i64 2))), (3, 1, (.const (.int .i64 0))), (4, 1, (.tmp 25))]⟩,
 ⟨some 27, none, .mov (.tmp 2)⟩,
 ⟨some 28, none, .agg [(.int .i64 0), (.int .i64 0), (.int .i64 0), (.int .i64 0), (.slice none 0 0)] [(0, 1, (.const (.int .i64 1))), (1, 1, (.const (.int .i64 (-1)))), (2, 1, (.const (.int .i64 0))), (3, 1, (.const (.int .i64 0))), (4, 1, (.tmp 27))]⟩,
 ⟨some 29, none, .mov (.tmp 2)⟩,
 ⟨some 30, none, .agg [(.int .i64 0), (.int .i64 0), (.int .i64 0), (.int .i64 0), (.slice none 0 0)] [(0, 1, (.const (.int .i64 3))), (1, 1, (.const (.int .i64 3))), (2, 1, (.const (.int .i64 0))), (3, 1, (.const (.int .i64 0))), (4, 1, (.tmp 29))]⟩,
 ⟨some 31, none, .mov (.tmp 2)⟩,
 ⟨some 32, none, .agg [(.int .i64 0), (.int .i64 0), (.int .i64 0), (.int .i64 0), (.slice none 0 0)] [(0, 1, (.const (.int .i64 1))), (1, 1, (.const (.int .i64 (-1)))), (2, 1, (.const (.int .i64 2))), (3, 1, (.const (.int .i64 0))), (4, 1, (.tmp 31))]⟩,
 ⟨some 33, none, .mov (.tmp 2)⟩,
 ⟨some 34, none, .agg [(.int .i64 0), (.int .i64 0), (.int .i64 0), (.int .i64 0), (.slice none 0 0)] [(0, 1, (.const (.int .i64 1))), (1, 1, (.const (.int .i64 (-1)))), (2, 1, (.const (.int .i64 2))), (3, 1, (.const (.int .i64 0))), (4, 1, (.tmp 33))]⟩,
 ⟨some 35, none, .mov (.tmp 2)⟩,
 ⟨some 36, none, .agg [(.int .i64 0), (.int .i64 0), (.int .i64 0), (.int .i64 0), (.slice none 0 0)] [(0, 1, (.const (.int .i64 1))), (1, 1, (.const (.int .i64 (-1)))), (2, 1, (.const (.int .i64 2))), (3, 1, (.const (.int .i64 0))), (4, 1, (.tmp 35))]⟩,
 ⟨some 37, none, .mov (.tmp 2)⟩,
 ⟨some 38, none, .agg [(.int .i64 0), (.int .i64 0), (.int .i64 0), (.int .i64 0), (.slice none 0 0)] [(0, 1, (.const (.int .i64 1))), (1, 1, (.const (.int .i64 (-1)))), (2, 1, (.const (.int .i64 3))), (3, 1, (.const (.int .i64 4))), (4, 1, (.tmp 37))]⟩,
 ⟨some 39, none, .lits [(.int .i64 0)] 1 [(0, 1, (.const (.int .i64 3)))]⟩,
 ⟨some 40, none, .agg [(.int .i64 0), (.int .i64 0), (.int .i64 0), (.int .i64 0), (.slice none 0 0)] [(0, 1, (.const (.int .i64 2))), (1, 1, (.const (.int .i64 2))), (2, 1, (.const (.int .i64 0))), (3, 1, (.const (.int .i64 0))), (4, 1, (.tmp 39))]⟩,
 ⟨some 41, none, .lits [(.int .i64 0)] 1 [(0, 1, (.const (.int .i64 4)))]⟩,
 ⟨some 42, none, .agg [(.int .i64 0), (.int .i64 0), (.int .i64 0), (.int .i64 0), (.slice none 0 0)] [(0, 1, (.const (.int .i64 1))), (1, 1, (.const (.int .i64 1))), (2, 1, (.const (.int .i64 0))), (3, 1, (.const (.int .i64 0))), (4, 1, (.tmp 41))]⟩,
 ⟨some 43, none, .mov (.tmp 2)⟩,
 ⟨some 44, none, .agg [(.int .i64 0), (.int .i64 0), (.int .i64 0), (.int .i64 0), (.slice none 0 0)] [(0, 1, (.const (.int .i64 0))), (1, 1, (.const (.int .i64 (-1)))), (2, 1, (.const (.int .i64 0))), (3, 1, (.const (.int .i64 0))), (4, 1, (.tmp 43))]⟩,
 ⟨some 45, none, .mov (.tmp 2)⟩,
 ⟨some 46, none, .agg [(.int .i64 0), (.int .i64 0), (.int .i64 0), (.int .i64 0), (.slice none 0 0)] [(0, 1, (.const (.int .i64 0))), (1, 1, (.const (.int .i64 (-1)))), (2, 1, (.const (.int .i64 0))), (3, 1, (.const (.int .i64 0))), (4, 1, (.tmp 45))]⟩,
 ⟨some 47, none, .mov (.tmp 2)⟩,
 ⟨some 48, none, .agg [(.int .i64 0), (.int .i64 0), (.int .i64 0), (.int .i64 0), (.slice none 0 0)] [(0, 1, (.const (.int .i64 2))), (1, 1, (.const (.int .i64 2))), (2, 1, (.const (.int .i64 0))), (3, 1, (.const (.int .i64 0))), (4, 1, (.tmp 47))]⟩,
 ⟨some 49, none, .mov (.tmp 2)⟩,
 ⟨some 50, none, .agg [(.int .i64 0), (.int .i64 0), (.int .i64 0), (.int .i64 0), (.slice none 0 0)] [(0, 1, (.const (.int .i64 2))), (1, 1, (.const (.int .i64 2))), (2, 1, (.const (.int .i64 0))), (3, 1, (.const (.int .i64 0))), (4, 1, (.tmp 49))]⟩,
 ⟨some 51, none, .mov (.tmp 2)⟩,
 ⟨some 52, none, .agg [(.int .i64 0), (.int .i64 0), (.int .i64 0), (.int .i64 0), (.slice none 0 0)] [(0, 1, (.const (.int .i64 1))), (1, 1, (.const (.int .i64 (-1)))), (2, 1, (.const (.int .i64 0))), (3, 1, (.const (.int .i64 0))), (4, 1, (.tmp 51))]⟩,
 ⟨some 53, none, .mov (.tmp 2)⟩,
 ⟨some 54, none, .agg [(.int .i64 0), (.int .i64 0), (.int .i64 0), (.int .i64 0), (.slice none 0 0)] [(0, 1, (.const (.int .i64 0))), (1, 1, (.const (.int .i64 (-1)))), (2, 1, (.const (.int .i64 0))), (3, 1, (.const (.int .i64 0))), (4, 1, (.tmp 53))]⟩,
 ⟨some 55, none, .mov (.tmp 1)⟩,
 ⟨some 56, none, .agg [(.int .i64 0), (.int .i64 0), (.int .i64 0), (.int .i64 0), (.slice none 0 0)] [(0, 1, (.const (.int .i64 2))), (1, 1, (.const (.int .i64 2))), (2, 1, (.const (.int .i64 5))), (3, 1, (.const (.int .i64 5))), (4, 1, (.tmp 55))]⟩,
 ⟨some 57, none, .agg [(.int .i64 0), (.int .i64 0), (.int .i64 0), (.int .i64 0), (.slice none 0 0), (.int .i64 0), (.int .i64 0), (.int .i64 0), (.int .i64 0), (.slice none 0 0), (.int .i64 0), (.int .i64 0), (.int .i64 0), (.int .i64 0), (.slice none 0 0), (.int .i64 0), (.int .i64 0), (.int .i64 0), (.int .i64 0), (.slice none 0 0), (.int .i64 0), (.int .i64 0), (.int .i64 0), (.int .i64 0), (.slice none 0 0), (.int .i64 0), (.int .i64 0), (.int .i64 0), (.int .i64 0), (.slice none 0 0), (.int .i64 0), (.int .i64 0), (.int .i64 0), (.int .i64 0), (.slice none 0 0), (.int .i64 0), (.int .i64 0), (.int .i64 0), (.int .i64 0), (.slice none 0 0), (.int .i64 0), (.int .i64 0), (.int .i64 0), (.int .i64 0), (.slice none 0 0), (.int .i64 0), (.int .i64 0), (.int .i64 0), (.int .i64 0), (.slice none 0 0), (.int .i64 0), (.int .i64 0), (.int .i64 0), (.int .i64 0), (.slice none 0 0), (.int .i64 0), (.int .i64 0), (.int .i64 0), (.int .i64 0), (.slice none 0 0), (.int .i64 0), (.int .i64 0), (.int .i64 0), (.int .i64 0), (.slice none 0 0), (.int .i64 0), (.int .i64 0), (.int .i64 0), (.int .i64 0), (.slice none 0 0), (.int .i64 0), (.int .i64 0), (.int .i64 0), (.int .i64 0), (.slice none 0 0), (.int .i64 0), (.int .i64 0), (.int .i64 0), (.int .i64 0), (.slice none 0 0), (.int .i64 0), (.int .i64 0), (.int .i64 0), (.int .i64 0), (.slice none 0 0), (.int .i64 0), (.int .i64 0), (.int .i64 0), (.int .i64 0), (.slice none 0 0), (.int .i64 0), (.int .i64 0), (.int .i64 0), (.int .i64 0), (.slice none 0 0), (.int .i64 0), (.int .i64 0), (.int .i64 0), (.int .i64 0), (.slice none 0 0), (.int .i64 0), (.int .i64 0), (.int .i64 0), (.int .i64 0), (.slice none 0 0), (.int .i64 0), (.int .i64 0), (.int .i64 0), (.int .i64 0), (.slice none 0 0), (.int .i64 0), (.int .i64 0), (.int .i64 0), (.int .i64 0), (.slice none 0 0), (.int .i64 0), (.int .i64 0), (.int .i64 0), (.int .i64 0), (.slice none 0 0), (.int .i64 0), (.int .i64 0), (.int .i64 0), (.int .i64 0), (.slice none 0 0)] [(5, 5, (.tmp 8)), (10, 5, (.tmp 10)), (15, 5, (.tmp 12)), (20, 5, (.tmp 15)), (25, 5, (.tmp 18)), (30, 5, (.tmp 20)), (45, 5, (.tmp 22)), (35, 5, (.tmp 24)), (40, 5, (.tmp 26)), (50, 5, (.tmp 28)), (55, 5, (.tmp 30)), (60, 5, (.tmp 32)), (65, 5, (.tmp 34)), (70, 5, (.tmp 36)), (75, 5, (.tmp 38)), (80, 5, (.tmp 40)), (85, 5, (.tmp 42)), (90, 5, (.tmp 44)), (95, 5, (.tmp 46)), (100, 5, (.tmp 48)), (105, 5, (.tmp 50)), (110, 5, (.tmp 52)), (115, 5, (.tmp 54)), (120, 5, (.tmp 56))]⟩,
 ⟨none, none, .st 125 (.tmp 0) (.tmp 57)⟩] [(0, 2), (1, 2), (0, 3), (1, 3), (0, 4), (1, 4), (2, 4), (3, 4), (0, 5), (1, 5), (2, 5), (3, 5), (0, 6), (1, 6), (2, 6), (3, 6), (4, 6), (5, 6), (0, 7), (1, 7), (2, 7), (3, 7), (4, 7), (5, 7), (0, 8), (1, 8), (2, 8), (3, 8), (4, 8), (5, 8), (0, 9), (1, 9), (2, 9), (3, 9), (4, 9), (5, 9), (6, 9), (7, 9), (8, 9), (0, 10), (1, 10), (2, 10), (3, 10), (4, 10), (5, 10), (6, 10), (7, 10), (8, 10), (0, 11), (1, 11), (2, 11), (3, 11), (4, 11), (5, 11), (6, 11), (7, 11), (8, 11), (0, 12), (1, 12), (2, 12), (3, 12), (4, 12), (5, 12), (6, 12), (7, 12), (8, 12), (9, 12), (10, 12), (11, 12), (0, 13), (1, 13), (2, 13), (3, 13), (4, 13), (5, 13), (6, 13), (7, 13), (8, 13), (9, 13), (10, 13), (11, 13), (0, 14), (1, 14), (2, 14), (3, 14), (4, 14), (5, 14), (6, 14), (7, 14), (8, 14), (9, 14), (10, 14), (11, 14), (12, 14), (13, 14), (0, 15), (1, 15), (2, 15), (3, 15), (4, 15), (5, 15), (6, 15), (7, 15), (8, 15), (9, 15), (10, 15), (11, 15), (12, 15), (13, 15), (0, 16), (1, 16), (2, 16), (3, 16), (4, 16), (5, 16), (6, 16), (7, 16), (8, 16), (9, 16), (10, 16), (11, 16), (12, 16), (13, 16), (14, 16), (15, 16), (0, 17), (1, 17), (2, 17), (3, 17), (4, 17), (5, 17), (6, 17), (7, 17), (8, 17), (9, 17), (10, 17), (11, 17), (12, 17), (13, 17), (14, 17), (15, 17), (0, 18), (1, 18), (2, 18), (3, 18), (4, 18), (5, 18), (6, 18), (7, 18), (8, 18), (9, 18), (10, 18), (11, 18), (12, 18), (13, 18), (14, 18), (15, 18), (16, 18), (17, 18), (0, 19), (1, 19), (2, 19), (3, 19), (4, 19), (5, 19), (6, 19), (7, 19), (8, 19), (9, 19), (10, 19), (11, 19), (12, 19), (13, 19), (14, 19), (15, 19), (16, 19), (17, 19), (0, 20), (1, 20), (2, 20), (3, 20), (4, 20), (5, 20), (6, 20), (7, 20), (8, 20), (9, 20), (10, 20), (11, 20), (12, 20), (13, 20), (14, 20), (15, 20), (16, 20), (17, 20), (18, 20), (19, 20), (0, 21), (1, 21), (2, 21), (3, 21), (4, 21), (5, 21), (6, 21), (7, 21), (8, 21), (9, 21), (10, 21), (11, 21), (12, 21), (13, 21), (14, 21), (15, 21), (16, 21), (17, 21), (18, 21), (19, 21), (0, 22), (1, 22), (2, 22), (3, 22), (4, 22), (5, 22), (6, 22), (7, 22), (8, 22), (9, 22), (10, 22), (11, 22), (12, 22), (13, 22), (14, 22), (15, 22), (16, 22), (17, 22), (18, 22), (19, 22), (20, 22), (21, 22), (0, 23), (1, 23), (2, 23), (3, 23), (4, 23), (5, 23), (6, 23), (7, 23), (8, 23), (9, 23), (10, 23), (11, 23), (12, 23), (13, 23), (14, 23), (15, 23), (16, 23), (17, 23), (18, 23), (19, 23), (20, 23), (21, 23), (0, 24), (1, 24), (2, 24), (3, 24), (4, 24), (5, 24), (6, 24), (7, 24), (8, 24), (9, 24), (10, 24), (11, 24), (12, 24), (13, 24), (14, 24), (15, 24), (16, 24), (17, 24), (18, 24), (19, 24), (20, 24), (21, 24), (22, 24), (23, 24), (0, 25), (1, 25), (2, 25), (3, 25), (4, 25), (5, 25), (6, 25), (7, 25), (8, 25), (9, 25), (10, 25), (11, 25), (12, 25), (13, 25), (14, 25), (15, 25), (16, 25), (17, 25), (18, 25), (19, 25), (20, 25), (21, 25), (22, 25), (23, 25), (0, 26), (1, 26), (2, 26), (3, 26), (4, 26), (5, 26), (6, 26), (7, 26), (8, 26), (9, 26), (10, 26), (11, 26), (12, 26), (13, 26), (14, 26), (15, 26), (16, 26), (17, 26), (18, 26), (19, 26), (20, 26), (21, 26), (22, 26), (23, 26), (24, 26), (25, 26), (0, 27), (1, 27), (2, 27), (3, 27), (4, 27), (5, 27), (6, 27), (7, 27), (8, 27), (9, 27), (10, 27), (11, 27), (12, 27), (13, 27), (14, 27), (15, 27), (16, 27), (17, 27), (18, 27), (19, 27), (20, 27), (21, 27), (22, 27), (23, 27), (24, 27), (25, 27), (0, 28), (1, 28), (2, 28), (3, 28), (4, 28), (5, 28), (6, 28), (7, 28), (8, 28), (9, 28), (10, 28), (11, 28), (12, 28), (13, 28), (14, 28), (15, 28), (16, 28), (17, 28), (18, 28), (19, 28), (20, 28), (21, 28), (22, 28), (23, 28), (24, 28), (25, 28), (26, 28), (27, 28), (0, 29), (1, 29), (2, 29), (3, 29), (4, 29), (5, 29), (6, 29), (7, 29), (8, 29), (9, 29), (10, 29), (11, 29), (12, 29), (13, 29), (14, 29), (15, 29), (16, 29), (17, 29), (18, 29), (19, 29), (20, 29), (21, 29), (22, 29), (23, 29), (24, 29), (25, 29), (26, 29), (27, 29), (0, 30), (1, 30), (2, 30), (3, 30), (4, 30), (5, 30), (6, 30), (7, 30), (8, 30), (9, 30), (10, 30), (11, 30), (12, 30), (13, 30), (14, 30), (15, 30), (16, 30), (17, 30), (18, 30), (19, 30), (20, 30), (21, 30), (22, 30), (23, 30), (24, 30), (25, 30), (26, 30), (27, 30), (28, 30), (29, 30), (0, 31), (1, 31), (2, 31), (3, 31), (4, 31), (5, 31), (6, 31), (7, 31), (8, 31), (9, 31), (10, 31), (11, 31), (12, 31), (13, 31), (14, 31), (15, 31), (16, 31), (17, 31), (18, 31), (19, 31), (20, 31), (21, 31), (22, 31), (23, 31), (24, 31), (25, 31), (26, 31), (27, 31), (28, 31), (29, 31), (0, 32), (1, 32), (2, 32), (3, 32), (4, 32), (5, 32), (6, 32), (7, 32), (8, 32), (9, 32), (10, 32), (11, 32), (12, 32), (13, 32), (14, 32), (15, 32), (16, 32), (17, 32), (18, 32), (19, 32), (20, 32), (21, 32), (22, 32), (23, 32), (24, 32), (25, 32), (26, 32), (27, 32), (28, 32), (29, 32), (30, 32), (31, 32), (0, 33), (1, 33), (2, 33), (3, 33), (4, 33), (5, 33), (6, 33), (7, 33), (8, 33), (9, 33), (10, 33), (11, 33), (12, 33), (13, 33), (14, 33), (15, 33), (16, 33), (17, 33), (18, 33), (19, 33), (20, 33), (21, 33), (22, 33), (23, 33), (24, 33), (25, 33), (26, 33), (27, 33), (28, 33), (29, 33), (30, 33), (31, 33), (0, 34), (1, 34), (2, 34), (3, 34), (4, 34), (5, 34), (6, 34), (7, 34), (8, 34), (9, 34), (10, 34), (11, 34), (12, 34), (13, 34), (14, 34), (15, 34), (16, 34), (17, 34), (18, 34), (19, 34), (20, 34), (21, 34), (22, 34), (23, 34), (24, 34), (25, 34), (26, 34), (27, 34), (28, 34), (29, 34), (30, 34), (31, 34), (32, 34), (33, 34), (0, 35), (1, 35), (2, 35), (3, 35), (4, 35), (5, 35), (6, 35), (7, 35), (8, 35), (9, 35), (10, 35), (11, 35), (12, 35), (13, 35), (14, 35), (15, 35), (16, 35), (17, 35), (18, 35), (19, 35), (20, 35), (21, 35), (22, 35), (23, 35), (24, 35), (25, 35), (26, 35), (27, 35), (28, 35), (29, 35), (30, 35), (31, 35), (32, 35), (33, 35), (0, 36), (1, 36), (2, 36), (3, 36), (4, 36), (5, 36), (6, 36), (7, 36), (8, 36), (9, 36), (10, 36), (11, 36), (12, 36), (13, 36), (14, 36), (15, 36), (16, 36), (17, 36), (18, 36), (19, 36), (20, 36), (21, 36), (22, 36), (23, 36), (24, 36), (25, 36), (26, 36), (27, 36), (28, 36), (29, 36), (30, 36), (31, 36), (32, 36), (33, 36), (34, 36), (35, 36), (0, 37), (1, 37), (2, 37), (3, 37), (4, 37), (5, 37), (6, 37), (7, 37), (8, 37), (9, 37), (10, 37), (11, 37), (12, 37), (13, 37), (14, 37), (15, 37), (16, 37), (17, 37), (18, 37), (19, 37), (20, 37), (21, 37), (22, 37), (23, 37), (24, 37), (25, 37), (26, 37), (27, 37), (28, 37), (29, 37), (30, 37), (31, 37), (32, 37), (33, 37), (34, 37), (35, 37), (0, 38), (1, 38), (2, 38), (3, 38), (4, 38), (5, 38), (6, 38), (7, 38), (8, 38), (9, 38), (10, 38), (11, 38), (12, 38), (13, 38), (14, 38), (15, 38), (16, 38), (17, 38), (18, 38), (19, 38), (20, 38), (21, 38), (22, 38), (23, 38), (24, 38), (25, 38), (26, 38), (27, 38), (28, 38), (29, 38), (30, 38), (31, 38), (32, 38), (33, 38), (34, 38), (35, 38), (36, 38), (37, 38), (0, 39), (1, 39), (2, 39), (3, 39), (4, 39), (5, 39), (6, 39), (7, 39), (8, 39), (9, 39), (10, 39), (11, 39), (12, 39), (13, 39), (14, 39), (15, 39), (16, 39), (17, 39), (18, 39), (19, 39), (20, 39), (21, 39), (22, 39), (23, 39), (24, 39), (25, 39), (26, 39), (27, 39), (28, 39), (29, 39), (30, 39), (31, 39), (32, 39), (33, 39), (34, 39), (35, 39), (36, 39), (37, 39), (0, 40), (1, 40), (2, 40), (3, 40), (4, 40), (5, 40), (6, 40), (7, 40), (8, 40), (9, 40), (10, 40), (11, 40), (12, 40), (13, 40), (14, 40), (15, 40), (16, 40), (17, 40), (18, 40), (19, 40), (20, 40), (21, 40), (22, 40), (23, 40), (24, 40), (25, 40), (26, 40), (27, 40), (28, 40), (29, 40), (30, 40), (31, 40), (32, 40), (33, 40), (34, 40), (35, 40), (36, 40), (37, 40), (38, 40), (39, 40), (0, 41), (1, 41), (2, 41), (3, 41), (4, 41), (5, 41), (6, 41), (7, 41), (8, 41), (9, 41), (10, 41), (11, 41), (12, 41), (13, 41), (14, 41), (15, 41), (16, 41), (17, 41), (18, 41), (19, 41), (20, 41), (21, 41), (22, 41), (23, 41), (24, 41), (25, 41), (26, 41), (27, 41), (28, 41), (29, 41), (30, 41), (31, 41), (32, 41), (33, 41), (34, 41), (35, 41), (36, 41), (37, 41), (38, 41), (39, 41), (0, 42), (1, 42), (2, 42), (3, 42), (4, 42), (5, 42), (6, 42), (7, 42), (8, 42), (9, 42), (10, 42), (11, 42), (12, 42), (13, 42), (14, 42), (15, 42), (16, 42), (17, 42), (18, 42), (19, 42), (20, 42), (21, 42), (22, 42), (23, 42), (24, 42), (25, 42), (26, 42), (27, 42), (28, 42), (29, 42), (30, 42), (31, 42), (32, 42), (33, 42), (34, 42), (35, 42), (36, 42), (37, 42), (38, 42), (39, 42), (40, 42), (41, 42), (0, 43), (1, 43), (2, 43), (3, 43), (4, 43), (5, 43), (6, 43), (7, 43), (8, 43), (9, 43), (10, 43), (11, 43), (12, 43), (13, 43), (14, 43), (15, 43), (16, 43), (17, 43), (18, 43), (19, 43), (20, 43), (21, 43), (22, 43), (23, 43), (24, 43), (25, 43), (26, 43), (27, 43), (28, 43), (29, 43), (30, 43), (31, 43), (32, 43), (33, 43), (34, 43), (35, 43), (36, 43), (37, 43), (38, 43), (39, 43), (40, 43), (41, 43), (0, 44), (1, 44), (2, 44), (3, 44), (4, 44), (5, 44), (6, 44), (7, 44), (8, 44), (9, 44), (10, 44), (11, 44), (12, 44), (13, 44), (14, 44), (15, 44), (16, 44), (17, 44), (18, 44), (19, 44), (20, 44), (21, 44), (22, 44), (23, 44), (24, 44), (25, 44), (26, 44), (27, 44), (28, 44), (29, 44), (30, 44), (31, 44), (32, 44), (33, 44), (34, 44), (35, 44), (36, 44), (37, 44), (38, 44), (39, 44), (40, 44), (41, 44), (42, 44), (43, 44), (0, 45), (1, 45), (2, 45), (3, 45), (4, 45), (5, 45), (6, 45), (7, 45), (8, 45), (9, 45), (10, 45), (11, 45), (12, 45), (13, 45), (14, 45), (15, 45), (16, 45), (17, 45), (18, 45), (19, 45), (20, 45), (21, 45), (22, 45), (23, 45), (24, 45), (25, 45), (26, 45), (27, 45), (28, 45), (29, 45), (30, 45), (31, 45), (32, 45), (33, 45), (34, 45), (35, 45), (36, 45), (37, 45), (38, 45), (39, 45), (40, 45), (41, 45), (42, 45), (43, 45), (0, 46), (1, 46), (2, 46), (3, 46), (4, 46), (5, 46), (6, 46), (7, 46), (8, 46), (9, 46), (10, 46), (11, 46), (12, 46), (13, 46), (14, 46), (15, 46), (16, 46), (17, 46), (18, 46), (19, 46), (20, 46), (21, 46), (22, 46), (23, 46), (24, 46), (25, 46), (26, 46), (27, 46), (28, 46), (29, 46), (30, 46), (31, 46), (32, 46), (33, 46), (34, 46), (35, 46), (36, 46), (37, 46), (38, 46), (39, 46), (40, 46), (41, 46), (42, 46), (43, 46), (44, 46), (45, 46), (0, 47), (1, 47), (2, 47), (3, 47), (4, 47), (5, 47), (6, 47), (7, 47), (8, 47), (9, 47), (10, 47), (11, 47), (12, 47), (13, 47), (14, 47), (15, 47), (16, 47), (17, 47), (18, 47), (19, 47), (20, 47), (21, 47), (22, 47), (23, 47), (24, 47), (25, 47), (26, 47), (27, 47), (28, 47), (29, 47), (30, 47), (31, 47), (32, 47), (33, 47), (34, 47), (35, 47), (36, 47), (37, 47), (38, 47), (39, 47), (40, 47), (41, 47), (42, 47), (43, 47), (44, 47), (45, 47), (0, 48), (1, 48), (2, 48), (3, 48), (4, 48), (5, 48), (6, 48), (7, 48), (8, 48), (9, 48), (10, 48), (11, 48), (12, 48), (13, 48), (14, 48), (15, 48), (16, 48), (17, 48), (18, 48), (19, 48), (20, 48), (21, 48), (22, 48), (23, 48), (24, 48), (25, 48), (26, 48), (27, 48), (28, 48), (29, 48), (30, 48), (31, 48), (32, 48), (33, 48), (34, 48), (35, 48), (36, 48), (37, 48), (38, 48), (39, 48), (40, 48), (41, 48), (42, 48), (43, 48), (44, 48), (45, 48), (46, 48), (47, 48), (0, 49), (1, 49), (2, 49), (3, 49), (4, 49), (5, 49), (6, 49), (7, 49), (8, 49), (9, 49), (10, 49), (11, 49), (12, 49), (13, 49), (14, 49), (15, 49), (16, 49), (17, 49), (18, 49), (19, 49), (20, 49), (21, 49), (22, 49), (23, 49), (24, 49), (25, 49), (26, 49), (27, 49), (28, 49), (29, 49), (30, 49), (31, 49), (32, 49), (33, 49), (34, 49), (35, 49), (36, 49), (37, 49), (38, 49), (39, 49), (40, 49), (41, 49), (42, 49), (43, 49), (44, 49), (45, 49), (46, 49), (47, 49)])
 .ret)))⟩
theorem ok97 : compF Tryz.prog Tryz.f97 = some c97 := fcompF_ok (bs := [(2, [0, 1, 0, 4, 0, 16, 0, 64, 192, 0, 512, 1536, 0, 4096, 0, 16384, 0, 65536, 0, 262144, 0, 1048576, 0, 4194304, 0, 16777216, 0, 67108864, 0, 268435456, 0, 1073741824, 0, 4294967296, 0, 17179869184, 0, 68719476736, 0, 274877906944, 0, 1099511627776, 0, 4398046511104, 0, 17592186044416, 0, 70368744177664, 0, 281474976710656, 1125899906842623, 2251799813685247])]) (by kernel_rfl)
def c98 : CF := ⟨78, [.cells 2 3],
 (.seq (.ops [⟨some 2, none, .newz [(.int .i64 0), (.int .i64 0), (.int .i64 0)]⟩])
 (.seq (.ops [⟨some 5, none, .mov (.tmp 0)⟩,
 ⟨some 6, none, .nilck (.tmp 5)⟩,
 ⟨some 7, none, .fad (.tmp 6) 1⟩,
 ⟨some 8, none, .ld1 (.tmp 7)⟩,
 ⟨some 9, none, .lnl (.tmp 8)⟩,
 ⟨some 10, none, .bin .sub (.tmp 9) (.const (.int .i64 1))⟩,
 ⟨some 3, none, .mov (.tmp 10)⟩])
 (.seq (.seq (.ops [⟨some 11, none, .mov (.tmp 3)⟩,
 ⟨some 12, none, .bin .lss (.tmp 11) (.const (.int .i64 0))⟩])
 (.cond (.tmp 12)
 (.seq (.ops [⟨some 13, none, .agg [(.int .i64 0), (.int .i64 0), (.int .i64 0)] [(0, 1, (.const (.int .i64 (-1)))), (1, 1, (.const (.int .i64 0))), (2, 1, (.const (.int .i64 0)))]⟩,
 ⟨none, none, .st 3 (.tmp 2) (.tmp 13)⟩])
 .ret)
 .skip))
 (.seq (.seq (.ops [⟨some 14, none, .mov (.tmp 0)⟩,
 ⟨some 15, none, .nilck (.tmp 14)⟩,
 ⟨some 16, none, .fad (.tmp 15) 0⟩,
 ⟨some 17, none, .ld1 (.tmp 16)⟩,
 ⟨some 18, none, .mov (.tmp 3)⟩,
 ⟨some 19, none, .iad 7 (.tmp 17) (.tmp 18)⟩,
 ⟨some 20, none, .fad (.tmp 19) 1⟩,
 ⟨some 21, none, .ld1 (.tmp 20)⟩,
 ⟨some 22, none, .bin .gtr (.tmp 21) (.const (.int .i64 0))⟩])
 (.cond (.tmp 22)
 (.seq (.ops [⟨some 23, none, .mov (.tmp 3)⟩,
 ⟨some 24, none, .mov (.tmp 0)⟩,
 ⟨some 25, none, .nilck (.tmp 24)⟩,
 ⟨some 26, none, .fad (.tmp 25) 1⟩,
 ⟨some 27, none, .ld1 (.tmp 26)⟩,
 ⟨some 28, none, .mov (.tmp 3)⟩,
 ⟨some 29, none, .iad 3 (.tmp 27) (.tmp 28)⟩,
 ⟨some 30, none, .fad (.tmp 29) 2⟩,
 ⟨some 31, none, .ld1 (.tmp 30)⟩,
 ⟨some 32, none, .bin .add (.tmp 31) (.const (.int .i64 1))⟩,
 ⟨some 33, none, .agg [(.int .i64 0), (.int .i64 0), (.int .i64 0)] [(0, 1, (.tmp 23)), (1, 1, (.const (.int .i64 0))), (2, 1, (.tmp 32))]⟩,
 ⟨none, none, .st 3 (.tmp 2) (.tmp 33)⟩])
 .ret)
 .skip))
 (.seq (.block 0 (.loop (.seq (.seq (.ops [⟨some 34, none, .mov (.tmp 3)⟩,
 ⟨some 35, none, .bin .geq (.tmp 34) (.const (.int .i64 0))⟩])
 (.cond (.tmp 35)
 .skip
 (.exit 0)))
 (.seq (.block 1 (.seq (.ops [⟨some 44, none, .mov (.tmp 0)⟩,
 ⟨some 45, none, .nilck (.tmp 44)⟩,
 ⟨some 46, none, .fad (.tmp 45) 1⟩,
 ⟨some 47, none, .ld1 (.tmp 46)⟩,
 ⟨some 48, none, .mov (.tmp 3)⟩,
 ⟨some 49, none, .iad 3 (.tmp 47) (.tmp 48)⟩,
 ⟨some 50, none, .ld 3 (.tmp 49)⟩,
 ⟨some 4, none, .newz [(.int .i64 0), (.int .i64 0), (.int .i64 0)]⟩,
 ⟨none, none, .st 3 (.tmp 4) (.tmp 50)⟩])
 (.seq (.draw [⟨some 51, none, .fad (.tmp 4) 0⟩,
 ⟨some 52, none, .ld1 (.tmp 51)⟩,
 ⟨some 53, none, .bin .geq (.tmp 52) (.const (.int .i64 0))⟩,
 ⟨some 54, none, .mov (.tmp 53)⟩,
 ⟨some 55, (some (54, true)), .fad (.tmp 4) 1⟩,
 ⟨some 56, (some (54, true)), .ld1 (.tmp 55)⟩,
 ⟨some 57, (some (54, true)), .bin .add (.tmp 56) (.const (.int .i64 1))⟩,
 ⟨some 58, (some (54, true)), .mov (.tmp 0)⟩,
 ⟨some 59, (some (54, true)), .nilck (.tmp 58)⟩,
 ⟨some 60, (some (54, true)), .fad (.tmp 59) 0⟩,
 ⟨some 61, (some (54, true)), .ld1 (.tmp 60)⟩,
 ⟨some 62, (some (54, true)), .fad (.tmp 4) 0⟩,
 ⟨some 63, (some (54, true)), .ld1 (.tmp 62)⟩,
 ⟨some 64, (some (54, true)), .iad 7 (.tmp 61) (.tmp 63)⟩,
 ⟨some 65, (some (54, true)), .fad (.tmp 64) 1⟩,
 ⟨some 66, (some (54, true)), .ld1 (.tmp 65)⟩,
 ⟨some 67, (some (54, true)), .bin .lss (.tmp 57) (.tmp 66)⟩,
 ⟨some 68, none, .pick (.tmp 54) (.tmp 67) (.const (.bool false))⟩] [(4, 7), (5, 7), (6, 7), (4, 8), (5, 8), (6, 8), (4, 9), (5, 9), (6, 9), (4, 10), (5, 10), (6, 10), (4, 11), (5, 11), (6, 11), (7, 11), (8, 11), (9, 11), (10, 11), (4, 12), (5, 12), (6, 12), (7, 12), (8, 12), (9, 12), (10, 12), (4, 13), (5, 13), (6, 13), (4, 14), (5, 14), (6, 14), (4, 15), (5, 15), (6, 15)])
 (.cond (.tmp 68)
 (.seq (.ops [⟨some 69, none, .fad (.tmp 4) 0⟩,
 ⟨some 70, none, .ld1 (.tmp 69)⟩,
 ⟨some 71, none, .fad (.tmp 4) 1⟩,
 ⟨some 72, none, .ld1 (.tmp 71)⟩,
 ⟨some 73, none, .bin .add (.tmp 72) (.const (.int .i64 1))⟩,
 ⟨some 74, none, .fad (.tmp 4) 2⟩,
 ⟨some 75, none, .ld1 (.tmp 74)⟩,
 ⟨some 76, none, .agg [(.int .i64 0), (.int .i64 0), (.int .i64 0)] [(0, 1, (.tmp 70)), (1, 1, (.tmp 73)), (2, 1, (.tmp 75))]⟩,
 ⟨none, none, .st 3 (.tmp 2) (.tmp 76)⟩])
 .ret)
 .skip))))
 (.ops [⟨some 36, none, .mov (.tmp 0)⟩,
 ⟨some 37, none, .nilck (.tmp 36)⟩,
 ⟨some 38, none, .fad (.tmp 37) 1⟩,
 ⟨some 39, none, .ld1 (.tmp 38)⟩,
 ⟨some 40, none, .mov (.tmp 3)⟩,
 ⟨some 41, none, .iad 3 (.tmp 39) (.tmp 40)⟩,
 ⟨some 42, none, .fad (.tmp 41) 0⟩,
 ⟨some 43, none, .ld1 (.tmp 42)⟩,
 ⟨some 3, none, .mov (.tmp 43)⟩])))))
 (.seq (.ops [⟨some 77, none, .agg [(.int .i64 0), (.int .i64 0), (.int .i64 0)] [(0, 1, (.const (.int .i64 (-1)))), (1, 1, (.const (.int .i64 0))), (2, 1, (.const (.int .i64 (-1))))]⟩,
 ⟨none, none, .st 3 (.tmp 2) (.tmp 77)⟩])
 .ret))))))⟩
theorem ok98 : compF Tryz.prog Tryz.f98 = some c98 := by kernel_rfl
def c99 : CF := ⟨109, [.tmp 4],
 (.seq (.ops [⟨some 2, none, .box (.tmp 0)⟩,
 ⟨some 4, none, .mov (.const (.int .i64 0))⟩])
 (.seq (.ops [⟨some 6, none, .fad (.tmp 2) 0⟩,
 ⟨some 7, none, .ld1 (.tmp 6)⟩,
 ⟨some 8, none, .bin .eql (.tmp 7) (.const (.int .i64 1))⟩,
 ⟨some 9, none, .mov (.tmp 8)⟩,
 ⟨some 10, (some (9, false)), .fad (.tmp 2) 0⟩,
 ⟨some 11, (some (9, false)), .ld1 (.tmp 10)⟩,
 ⟨some 12, (some (9, false)), .bin .eql (.tmp 11) (.const (.int .i64 2))⟩,
 ⟨some 13, none, .pick (.tmp 9) (.const (.bool true)) (.tmp 12)⟩,
 ⟨some 14, none, .mov (.tmp 13)⟩,
 ⟨some 15, (some (14, false)), .fad (.tmp 2) 0⟩,
 ⟨some 16, (some (14, false)), .ld1 (.tmp 15)⟩,
 ⟨some 17, (some (14, false)), .bin .eql (.tmp 16) (.const (.int .i64 6))⟩,
 ⟨some 18, none, .pick (.tmp 14) (.const (.bool true)) (.tmp 17)⟩,
 ⟨some 19, none, .mov (.tmp 18)⟩,
 ⟨some 20, (some (19, false)), .fad (.tmp 2) 0⟩,
 ⟨some 21, (some (19, false)), .ld1 (.tmp 20)⟩,
 ⟨some 22, (some (19, false)), .bin .eql (.tmp 21) (.const (.int .i64 9))⟩,
 ⟨some 23, none, .pick (.tmp 19) (.const (.bool true)) (.tmp 22)⟩,
 ⟨some 5, none, .mov (.tmp 23)⟩])
 (.seq (.block 0 (.seq (.ops [⟨some 25, none, .fad (.tmp 2) 0⟩,
 ⟨some 26, none, .ld1 (.tmp 25)⟩,
 ⟨some 27, none, .bin .lss (.tmp 26) (.const (.int .i64 1))⟩,
 ⟨some 28, none, .mov (.tmp 27)⟩,
 ⟨some 29, (some (28, false)), .fad (.tmp 2) 0⟩,
 ⟨some 30, (some (28, false)), .ld1 (.tmp 29)⟩,
 ⟨some 31, (some (28, false)), .bin .gtr (.tmp 30) (.const (.int .i64 24))⟩,
 ⟨some 32, none, .pick (.tmp 28) (.const (.bool true)) (.tmp 31)⟩,
 ⟨some 33, none, .mov (.tmp 32)⟩,
 ⟨some 34, (some (33, false)), .fad (.tmp 2) 1⟩,
 ⟨some 35, (some (33, false)), .ld1 (.tmp 34)⟩,
 ⟨some 36, (some (33, false)), .bin .lss (.tmp 35) (.const (.int .i64 0))⟩,
 ⟨some 37, none, .pick (.tmp 33) (.const (.bool true)) (.tmp 36)⟩,
 ⟨some 38, none, .mov (.tmp 37)⟩,
 ⟨some 39, (some (38, false)), .mov (.tmp 5)⟩,
 ⟨some 40, (some (38, false)), .un .not (.tmp 39)⟩,
 ⟨some 41, (some (38, false)), .mov (.tmp 40)⟩,
 ⟨some 42, (some (41, true)), .fad (.tmp 2) 2⟩,
 ⟨some 43, (some (41, true)), .ld1 (.tmp 42)⟩,
 ⟨some 44, (some (41, true)), .bin .neq (.tmp 43) (.const (.int .i64 0))⟩,
 ⟨some 45, (some (38, false)), .pick (.tmp 41) (.tmp 44) (.const (.bool false))⟩,
 ⟨some 46, none, .pick (.tmp 38) (.const (.bool true)) (.tmp 45)⟩,
 ⟨some 47, none, .mov (.tmp 46)⟩,
 ⟨some 48, (some (47, false)), .fad (.tmp 2) 0⟩,
 ⟨some 49, (some (47, false)), .ld1 (.tmp 48)⟩,
 ⟨some 50, (some (47, false)), .call (.func 149) [(.tmp 49)]⟩,
 ⟨some 51, (some (47, false)), .un .not (.tmp 50)⟩,
 ⟨some 52, (some (47, false)), .mov (.tmp 51)⟩,
 ⟨some 53, (some (52, true)), .fad (.tmp 2) 3⟩,
 ⟨some 54, (some (52, true)), .ld1 (.tmp 53)⟩,
 ⟨some 55, (some (52, true)), .bin .neq (.tmp 54) (.const (.string ⟨#[]⟩))⟩,
 ⟨some 56, (some (47, false)), .pick (.tmp 52) (.tmp 55) (.const (.bool false))⟩,
 ⟨some 57, none, .pick (.tmp 47) (.const (.bool true)) (.tmp 56)⟩,
 ⟨some 24, none, .mov (.tmp 57)⟩])
 (.cond (.tmp 24)
 (.seq (.ops [⟨some 4, none, .mov (.const (.int .i64 6))⟩])
 .ret)
 (.seq (.ops [⟨some 59, none, .mov (.tmp 1)⟩,
 ⟨some 60, none, .bin .gtr (.tmp 59) (.const (.int .i64 200))⟩,
 ⟨some 58, none, .mov (.tmp 60)⟩])
 (.cond (.tmp 58)
 (.seq (.ops [⟨some 4, none, .mov (.const (.int .i64 3))⟩])
 .ret)
 (.seq (.ops [⟨some 62, none, .fad (.tmp 2) 0⟩,
 ⟨some 63, none, .ld1 (.tmp 62)⟩,
 ⟨some 64, none, .bin .neq (.tmp 63) (.const (.int .i64 1))⟩,
 ⟨some 65, none, .mov (.tmp 64)⟩,
 ⟨some 66, (some (65, true)), .fad (.tmp 2) 2⟩,
 ⟨some 67, (some (65, true)), .ld1 (.tmp 66)⟩,
 ⟨some 68, (some (65, true)), .bin .lss (.tmp 67) (.const (.int .i64 0))⟩,
 ⟨some 69, none, .pick (.tmp 65) (.tmp 68) (.const (.bool false))⟩,
 ⟨some 70, none, .mov (.tmp 69)⟩,
 ⟨some 71, (some (70, false)), .fad (.tmp 2) 0⟩,
 ⟨some 72, (some (70, false)), .ld1 (.tmp 71)⟩,
 ⟨some 73, (some (70, false)), .bin .eql (.tmp 72) (.const (.int .i64 2))⟩,
 ⟨some 74, (some (70, false)), .mov (.tmp 73)⟩,
 ⟨some 75, (some (74, true)), .fad (.tmp 2) 2⟩,
 ⟨some 76, (some (74, true)), .ld1 (.tmp 75)⟩,
 ⟨some 77, (some (74, true)), .bin .gtr (.tmp 76) (.const (.int .i64 1))⟩,
 ⟨some 78, (some (70, false)), .pick (.tmp 74) (.tmp 77) (.const (.bool false))⟩,
 ⟨some 79, none, .pick (.tmp 70) (.const (.bool true)) (.tmp 78)⟩,
 ⟨some 61, none, .mov (.tmp 79)⟩])
 (.cond (.tmp 61)
 (.seq (.ops [⟨some 4, none, .mov (.const (.int .i64 7))⟩])
 .ret)
 (.seq (.ops [⟨some 81, none, .fad (.tmp 2) 0⟩,
 ⟨some 82, none, .ld1 (.tmp 81)⟩,
 ⟨some 83, none, .call (.func 149) [(.tmp 82)]⟩,
 ⟨some 84, none, .mov (.tmp 83)⟩,
 ⟨some 85, (some (84, true)), .fad (.tmp 2) 3⟩,
 ⟨some 86, (some (84, true)), .ld1 (.tmp 85)⟩,
 ⟨some 87, (some (84, true)), .call (.func 122) [(.tmp 86)]⟩,
 ⟨some 88, (some (84, true)), .un .not (.tmp 87)⟩,
 ⟨some 89, none, .pick (.tmp 84) (.tmp 88) (.const (.bool false))⟩,
 ⟨some 90, none, .mov (.tmp 89)⟩,
 ⟨some 91, (some (90, false)), .fad (.tmp 2) 4⟩,
 ⟨some 92, (some (90, false)), .fad (.tmp 91) 0⟩,
 ⟨some 93, (some (90, false)), .ld1 (.tmp 92)⟩,
 ⟨some 94, (some (90, false)), .bin .lss (.tmp 93) (.const (.int .i64 0))⟩,
 ⟨some 95, none, .pick (.tmp 90) (.const (.bool true)) (.tmp 94)⟩,
 ⟨some 96, none, .mov (.tmp 95)⟩,
 ⟨some 97, (some (96, false)), .fad (.tmp 2) 4⟩,
 ⟨some 98, (some (96, false)), .fad (.tmp 97) 0⟩,
 ⟨some 99, (some (96, false)), .ld1 (.tmp 98)⟩,
 ⟨some 100, (some (96, false)), .fad (.tmp 2) 4⟩,
 ⟨some 101, (some (96, false)), .fad (.tmp 100) 1⟩,
 ⟨some 102, (some (96, false)), .ld1 (.tmp 101)⟩,
 ⟨some 103, (some (96, false)), .bin .gtr (.tmp 99) (.tmp 102)⟩,
 ⟨some 104, none, .pick (.tmp 96) (.const (.bool true)) (.tmp 103)⟩,
 ⟨some 80, none, .mov (.tmp 104)⟩])
 (.cond (.tmp 80)
 (.seq (.ops [⟨some 4, none, .mov (.const (.int .i64 6))⟩])
 .ret)
 (.seq (.ops [⟨some 106, none, .fad (.tmp 2) 6⟩,
 ⟨some 107, none, .ld1 (.tmp 106)⟩,
 ⟨some 108, none, .bin .lss (.tmp 107) (.const (.int .i64 0))⟩,
 ⟨some 105, none, .mov (.tmp 108)⟩])
 (.cond (.tmp 105)
 (.seq (.ops [⟨some 4, none, .mov (.const (.int .i64 7))⟩])
 .ret)
 .skip)))))))))))
 (.seq (.ops [⟨some 4, none, .mov (.const (.int .i64 0))⟩])
 .ret))))⟩
theorem ok99 : compF Tryz.prog Tryz.f99 = some c99 := by kernel_rfl
def c100 : CF := ⟨77, [.tmp 6],
 (.seq (.ops [⟨some 4, none, .box (.tmp 1)⟩,
 ⟨some 5, none, .box (.tmp 2)⟩,
 ⟨some 6, none, .mov (.const (.int .i64 0))⟩])
 (.seq (.draw [⟨some 10, none, .mov (.tmp 0)⟩,
 ⟨some 11, none, .fad (.tmp 4) 0⟩,
 ⟨some 12, none, .ld1 (.tmp 11)⟩,
 ⟨some 13, none, .nilck (.tmp 10)⟩,
 ⟨some 14, none, .fad (.tmp 13) 2⟩,
 ⟨some 15, none, .iaa 25 5 (.tmp 14) (.tmp 12)⟩,
 ⟨some 16, none, .ld 5 (.tmp 15)⟩,
 ⟨some 17, none, .mov (.tmp 0)⟩,
 ⟨some 18, none, .ld 3 (.tmp 5)⟩,
 ⟨some 19, none, .call (.func 150) [(.tmp 17), (.tmp 18)]⟩,
 ⟨some 7, none, .newz [(.int .i64 0), (.int .i64 0), (.int .i64 0), (.int .i64 0), (.slice none 0 0)]⟩,
 ⟨none, none, .st 5 (.tmp 7) (.tmp 16)⟩,
 ⟨some 8, none, .mov (.tmp 19)⟩] [(0, 1), (0, 2), (1, 3), (2, 3), (1, 4), (2, 4), (0, 7), (1, 7), (2, 7), (3, 7), (4, 7), (5, 7), (6, 7), (0, 8), (1, 8), (2, 8), (3, 8), (4, 8), (5, 8), (6, 8), (7, 8), (0, 9), (1, 9), (2, 9), (3, 9), (4, 9), (5, 9), (6, 9), (0, 10), (1, 10), (2, 10), (3, 10), (4, 10), (5, 10), (6, 10), (7, 10), (8, 10), (9, 10)])
 (.seq (.seq (.ops [⟨some 20, none, .fad (.tmp 4) 1⟩,
 ⟨some 21, none, .ld1 (.tmp 20)⟩,
 ⟨some 22, none, .fad (.tmp 7) 0⟩,
 ⟨some 23, none, .ld1 (.tmp 22)⟩,
 ⟨some 24, none, .bin .lss (.tmp 21) (.tmp 23)⟩,
 ⟨some 25, none, .mov (.tmp 24)⟩,
 ⟨some 26, (some (25, false)), .fad (.tmp 7) 1⟩,
 ⟨some 27, (some (25, false)), .ld1 (.tmp 26)⟩,
 ⟨some 28, (some (25, false)), .bin .geq (.tmp 27) (.const (.int .i64 0))⟩,
 ⟨some 29, (some (25, false)), .mov (.tmp 28)⟩,
 ⟨some 30, (some (29, true)), .fad (.tmp 4) 1⟩,
 ⟨some 31, (some (29, true)), .ld1 (.tmp 30)⟩,
 ⟨some 32, (some (29, true)), .fad (.tmp 7) 1⟩,
 ⟨some 33, (some (29, true)), .ld1 (.tmp 32)⟩,
 ⟨some 34, (some (29, true)), .bin .gtr (.tmp 31) (.tmp 33)⟩,
 ⟨some 35, (some (25, false)), .pick (.tmp 29) (.tmp 34) (.const (.bool false))⟩,
 ⟨some 36, none, .pick (.tmp 25) (.const (.bool true)) (.tmp 35)⟩,
 ⟨some 37, none, .mov (.tmp 36)⟩,
 ⟨some 38, (some (37, false)), .fad (.tmp 4) 0⟩,
 ⟨some 39, (some (37, false)), .ld1 (.tmp 38)⟩,
 ⟨some 40, (some (37, false)), .call (.func 151) [(.tmp 39)]⟩,
 ⟨some 41, (some (37, false)), .mov (.tmp 40)⟩,
 ⟨some 42, (some (41, true)), .fad (.tmp 4) 1⟩,
 ⟨some 43, (some (41, true)), .ld1 (.tmp 42)⟩,
 ⟨some 44, (some (41, true)), .bin .rem (.tmp 43) (.const (.int .i64 2))⟩,
 ⟨some 45, (some (41, true)), .bin .eql (.tmp 44) (.const (.int .i64 0))⟩,
 ⟨some 46, (some (37, false)), .pick (.tmp 41) (.tmp 45) (.const (.bool false))⟩,
 ⟨some 47, none, .pick (.tmp 37) (.const (.bool true)) (.tmp 46)⟩,
 ⟨some 48, none, .mov (.tmp 47)⟩,
 ⟨some 49, (some (48, false)), .fad (.tmp 7) 4⟩,
 ⟨some 50, (some (48, false)), .ld1 (.tmp 49)⟩,
 ⟨some 51, (some (48, false)), .mov (.tmp 8)⟩,
 ⟨some 52, (some (48, false)), .call (.func 152) [(.tmp 50), (.tmp 51)]⟩,
 ⟨some 53, (some (48, false)), .un .not (.tmp 52)⟩,
 ⟨some 54, none, .pick (.tmp 48) (.const (.bool true)) (.tmp 53)⟩])
 (.cond (.tmp 54)
 (.seq (.ops [⟨some 6, none, .mov (.const (.int .i64 6))⟩])
 .ret)
 .skip))
 (.seq (.ops [⟨some 9, none, .mov (.const (.int .i64 0))⟩])
 (.seq (.seq (.ops [⟨some 55, none, .fad (.tmp 4) 0⟩,
 ⟨some 56, none, .ld1 (.tmp 55)⟩])
 (.block 0 (.seq (.ops [⟨some 58, none, .bin .eql (.tmp 56) (.const (.int .i64 8))⟩,
 ⟨some 57, none, .mov (.tmp 58)⟩])
 (.cond (.tmp 57)
 (.ops [⟨some 59, none, .fad (.tmp 4) 1⟩,
 ⟨some 60, none, .ld1 (.tmp 59)⟩,
 ⟨some 61, none, .bin .sub (.tmp 60) (.const (.int .i64 1))⟩,
 ⟨some 9, none, .mov (.tmp 61)⟩])
 (.seq (.seq (.ops [⟨some 63, none, .bin .eql (.tmp 56) (.const (.int .i64 12))⟩,
 ⟨some 62, none, .mov (.tmp 63)⟩])
 (.cond (.tmp 62)
 .skip
 (.ops [⟨some 64, none, .bin .eql (.tmp 56) (.const (.int .i64 14))⟩,
 ⟨some 62, none, .mov (.tmp 64)⟩])))
 (.cond (.tmp 62)
 (.ops [⟨some 65, none, .fad (.tmp 4) 1⟩,
 ⟨some 66, none, .ld1 (.tmp 65)⟩,
 ⟨some 67, none, .bin .quo (.tmp 66) (.const (.int .i64 2))⟩,
 ⟨some 9, none, .mov (.tmp 67)⟩])
 .skip))))))
 (.seq (.seq (.ops [⟨some 68, none, .mov (.tmp 9)⟩,
 ⟨some 69, none, .bin .gtr (.tmp 68) (.const (.int .i64 8))⟩])
 (.cond (.tmp 69)
 (.seq (.ops [⟨some 6, none, .mov (.const (.int .i64 3))⟩])
 .ret)
 .skip))
 (.seq (.seq (.ops [⟨some 70, none, .mov (.tmp 8)⟩,
 ⟨some 71, none, .bin .eql (.tmp 70) (.const (.int .i64 6))⟩,
 ⟨some 72, none, .mov (.tmp 71)⟩,
 ⟨some 73, (some (72, true)), .fad (.tmp 4) 0⟩,
 ⟨some 74, (some (72, true)), .ld1 (.tmp 73)⟩,
 ⟨some 75, (some (72, true)), .bin .neq (.tmp 74) (.const (.int .i64 8))⟩,
 ⟨some 76, none, .pick (.tmp 72) (.tmp 75) (.const (.bool false))⟩])
 (.cond (.tmp 76)
 (.seq (.ops [⟨some 6, none, .mov (.const (.int .i64 16))⟩])
 .ret)
 .skip))
 (.seq (.ops [⟨some 6, none, .mov (.const (.int .i64 0))⟩])
 .ret))))))))⟩
theorem ok100 : compF Tryz.prog Tryz.f100 = some c100 := by kernel_rfl
def c101 : CF := ⟨99, [.tmp 2, .tmp 3, .tmp 4],
 (.seq (.ops [⟨some 2, none, .mov (.const (.pointer none))⟩,
 ⟨some 3, none, .mov (.const (.int .i64 0))⟩,
 ⟨some 4, none, .mov (.const (.int .i64 0))⟩])
 (.seq (.ops [⟨some 14, none, .mov (.tmp 0)⟩,
 ⟨some 15, none, .nilck (.tmp 14)⟩,
 ⟨some 16, none, .fad (.tmp 15) 0⟩,
 ⟨some 17, none, .ld1 (.tmp 16)⟩,
 ⟨some 18, none, .lnl (.tmp 17)⟩,
 ⟨some 5, none, .mov (.tmp 18)⟩])
 (.seq (.seq (.ops [⟨some 19, none, .mov (.tmp 0)⟩,
 ⟨some 20, none, .nilck (.tmp 19)⟩,
 ⟨some 21, none, .fad (.tmp 20) 0⟩,
 ⟨some 22, none, .ld1 (.tmp 21)⟩,
 ⟨some 23, none, .lnl (.tmp 22)⟩,
 ⟨some 24, none, .mov (.const (.int .i64 0))⟩])
 (.block 0 (.loop (.seq (.ops [⟨some 25, none, .bin .lss (.tmp 24) (.tmp 23)⟩])
 (.seq (.cond (.tmp 25)
 .skip
 (.exit 0))
 (.seq (.block 1 (.seq (.ops [⟨some 26, none, .mov (.tmp 24)⟩,
 ⟨some 27, none, .iad 7 (.tmp 22) (.tmp 24)⟩,
 ⟨some 28, none, .ld 7 (.tmp 27)⟩,
 ⟨some 7, none, .newz [(.int .i64 0), (.int .i64 0), (.int .i64 0), (.string ⟨#[]⟩), (.int .i64 0), (.int .i64 0), (.int .i64 0)]⟩,
 ⟨some 6, none, .mov (.tmp 26)⟩,
 ⟨none, none, .st 7 (.tmp 7) (.tmp 28)⟩])
 (.seq (.seq (.ops [⟨some 29, none, .fad (.tmp 7) 0⟩,
 ⟨some 30, none, .ld1 (.tmp 29)⟩,
 ⟨some 31, none, .bin .neq (.tmp 30) (.const (.int .i64 9))⟩])
 (.cond (.tmp 31)
 (.exit 1)
 .skip))
 (.seq (.seq (.draw [⟨some 33, none, .mov (.tmp 0)⟩,
 ⟨some 34, none, .nilck (.tmp 33)⟩,
 ⟨some 35, none, .fad (.tmp 34) 127⟩,
 ⟨some 36, none, .ld1 (.tmp 35)⟩,
 ⟨some 37, none, .fad (.tmp 7) 2⟩,
 ⟨some 38, none, .ld1 (.tmp 37)⟩,
 ⟨some 39, none, .lkp (.int .i64) (.int .i64 0) (.tmp 36) (.tmp 38) true⟩,
 ⟨some 32, none, .mov (.tmp 39)⟩,
 ⟨some 40, none, .ext (.tmp 32) 0⟩,
 ⟨some 41, none, .ext (.tmp 32) 1⟩,
 ⟨some 8, none, .mov (.tmp 40)⟩,
 ⟨some 9, none, .mov (.tmp 41)⟩] [(0, 4), (1, 4), (2, 4), (3, 4), (0, 5), (1, 5), (2, 5), (3, 5), (8, 9), (9, 10)])
 (.seq (.ops [⟨some 42, none, .mov (.tmp 9)⟩])
 (.cond (.tmp 42)
 (.seq (.ops [⟨some 43, none, .mov (.tmp 5)⟩,
 ⟨some 44, none, .mov (.tmp 6)⟩,
 ⟨some 45, none, .mnx false [(.tmp 43), (.tmp 44)]⟩,
 ⟨some 5, none, .mov (.tmp 45)⟩])
 (.exit 1))
 .skip)))
 (.draw [⟨some 46, none, .mov (.tmp 0)⟩,
 ⟨some 47, none, .nilck (.tmp 46)⟩,
 ⟨some 48, none, .fad (.tmp 47) 127⟩,
 ⟨some 49, none, .ld1 (.tmp 48)⟩,
 ⟨some 50, none, .fad (.tmp 7) 2⟩,
 ⟨some 51, none, .ld1 (.tmp 50)⟩,
 ⟨some 52, none, .mov (.tmp 6)⟩,
 ⟨none, none, .mup (.int .i64) (.tmp 49) (.tmp 51) (.tmp 52)⟩] [(0, 4), (1, 4), (2, 4), (3, 4), (0, 5), (1, 5), (2, 5), (3, 5), (0, 6), (1, 6), (2, 6), (3, 6), (4, 6), (5, 6)])))))
 (.ops [⟨some 53, none, .bin .add (.tmp 24) (.const (.int .i64 1))⟩,
 ⟨some 24, none, .mov (.tmp 53)⟩])))))))
 (.seq (.seq (.ops [⟨some 54, none, .mov (.tmp 0)⟩,
 ⟨some 55, none, .nilck (.tmp 54)⟩,
 ⟨some 56, none, .fad (.tmp 55) 0⟩,
 ⟨some 57, none, .ld1 (.tmp 56)⟩,
 ⟨some 58, none, .lnl (.tmp 57)⟩,
 ⟨some 59, none, .mov (.const (.int .i64 0))⟩])
 (.block 2 (.loop (.seq (.ops [⟨some 60, none, .bin .lss (.tmp 59) (.tmp 58)⟩])
 (.seq (.cond (.tmp 60)
 .skip
 (.exit 2))
 (.seq (.block 3 (.seq (.ops [⟨some 61, none, .mov (.tmp 59)⟩,
 ⟨some 62, none, .iad 7 (.tmp 57) (.tmp 59)⟩,
 ⟨some 63, none, .ld 7 (.tmp 62)⟩,
 ⟨some 11, none, .newz [(.int .i64 0), (.int .i64 0), (.int .i64 0), (.string ⟨#[]⟩), (.int .i64 0), (.int .i64 0), (.int .i64 0)]⟩,
 ⟨some 10, none, .mov (.tmp 61)⟩,
 ⟨none, none, .st 7 (.tmp 11) (.tmp 63)⟩])
 (.seq (.seq (.ops [⟨some 64, none, .mov (.tmp 10)⟩,
 ⟨some 65, none, .mov (.tmp 5)⟩,
 ⟨some 66, none, .bin .eql (.tmp 64) (.tmp 65)⟩])
 (.cond (.tmp 66)
 (.seq (.ops [⟨some 67, none, .mov (.tmp 10)⟩,
 ⟨some 2, none, .mov (.const (.pointer none))⟩,
 ⟨some 3, none, .mov (.tmp 67)⟩,
 ⟨some 4, none, .mov (.const (.int .i64 8))⟩])
 .ret)
 .skip))
 (.seq (.seq (.ops [⟨some 68, none, .fad (.tmp 11) 0⟩,
 ⟨some 69, none, .ld1 (.tmp 68)⟩,
 ⟨some 70, none, .bin .neq (.tmp 69) (.const (.int .i64 6))⟩])
 (.cond (.tmp 70)
 (.exit 3)
 .skip))
 (.seq (.draw [⟨some 72, none, .mov (.tmp 0)⟩,
 ⟨some 73, none, .nilck (.tmp 72)⟩,
 ⟨some 74, none, .fad (.tmp 73) 127⟩,
 ⟨some 75, none, .ld1 (.tmp 74)⟩,
 ⟨some 76, none, .fad (.tmp 11) 2⟩,
 ⟨some 77, none, .ld1 (.tmp 76)⟩,
 ⟨some 78, none, .lkp (.int .i64) (.int .i64 0) (.tmp 75) (.tmp 77) true⟩,
 ⟨some 71, none, .mov (.tmp 78)⟩,
 ⟨some 79, none, .ext (.tmp 71) 0⟩,
 ⟨some 80, none, .ext (.tmp 71) 1⟩,
 ⟨some 12, none, .mov (.tmp 79)⟩,
 ⟨some 13, none, .mov (.tmp 80)⟩] [(0, 4), (1, 4), (2, 4), (3, 4), (0, 5), (1, 5), (2, 5), (3, 5), (8, 9), (9, 10)])
 (.seq (.seq (.ops [⟨some 81, none, .mov (.tmp 13)⟩,
 ⟨some 82, none, .un .not (.tmp 81)⟩])
 (.cond (.tmp 82)
 (.seq (.ops [⟨some 83, none, .mov (.tmp 10)⟩,
 ⟨some 2, none, .mov (.const (.pointer none))⟩,
 ⟨some 3, none, .mov (.tmp 83)⟩,
 ⟨some 4, none, .mov (.const (.int .i64 10))⟩])
 .ret)
 .skip))
 (.seq (.ops [⟨some 84, none, .mov (.tmp 0)⟩,
 ⟨some 85, none, .mov (.tmp 12)⟩,
 ⟨some 86, none, .mov (.tmp 10)⟩,
 ⟨some 87, none, .call (.func 153) [(.tmp 84), (.tmp 85), (.tmp 86)]⟩,
 ⟨some 88, none, .un .not (.tmp 87)⟩,
 ⟨some 89, none, .mov (.tmp 88)⟩,
 ⟨some 90, (some (89, true)), .mov (.tmp 0)⟩,
 ⟨some 91, (some (89, true)), .mov (.tmp 12)⟩,
 ⟨some 92, (some (89, true)), .mov (.tmp 10)⟩,
 ⟨some 93, (some (89, true)), .call (.func 154) [(.tmp 90), (.tmp 91), (.tmp 92)]⟩,
 ⟨some 94, (some (89, true)), .un .not (.tmp 93)⟩,
 ⟨some 95, none, .pick (.tmp 89) (.tmp 94) (.const (.bool false))⟩])
 (.cond (.tmp 95)
 (.seq (.ops [⟨some 96, none, .mov (.tmp 10)⟩,
 ⟨some 2, none, .mov (.const (.pointer none))⟩,
 ⟨some 3, none, .mov (.tmp 96)⟩,
 ⟨some 4, none, .mov (.const (.int .i64 15))⟩])
 .ret)
 .skip))))))))
 (.ops [⟨some 97, none, .bin .add (.tmp 59) (.const (.int .i64 1))⟩,
 ⟨some 59, none, .mov (.tmp 97)⟩])))))))
 (.seq (.ops [⟨some 98, none, .mov (.tmp 0)⟩,
 ⟨some 2, none, .mov (.tmp 98)⟩,
 ⟨some 3, none, .mov (.const (.int .i64 0))⟩,
 ⟨some 4, none, .mov (.const (.int .i64 0))⟩])
 .ret)))))⟩
theorem ok101 : compF Tryz.prog Tryz.f101 = some c101 := by kernel_rfl
def c102 : CF := ⟨19, [.tmp 4],
 (.seq (.ops [⟨some 4, none, .mov (.const (.int .i64 0))⟩])
 (.seq (.seq (.ops [⟨some 5, none, .mov (.const (.int .i64 1))⟩])
 (.block 0 (.loop (.seq (.seq (.ops [⟨some 6, none, .mov (.tmp 5)⟩,
 ⟨some 7, none, .bin .gtr (.tmp 6) (.const (.int .i64 0))⟩])
 (.cond (.tmp 7)
 .skip
 (.exit 0)))
 (.seq (.block 1 (.ops [⟨some 10, none, .mov (.tmp 5)⟩,
 ⟨some 11, none, .mov (.tmp 0)⟩,
 ⟨some 12, none, .mov (.tmp 1)⟩,
 ⟨some 13, none, .iad 7 (.tmp 11) (.tmp 12)⟩,
 ⟨some 14, none, .fad (.tmp 13) 1⟩,
 ⟨some 15, none, .ld1 (.tmp 14)⟩,
 ⟨some 16, none, .bin .sub (.tmp 15) (.const (.int .i64 1))⟩,
 ⟨some 17, none, .bin .add (.tmp 10) (.tmp 16)⟩,
 ⟨some 5, none, .mov (.tmp 17)⟩]))
 (.ops [⟨some 8, none, .mov (.tmp 1)⟩,
 ⟨some 9, none, .bin .add (.tmp 8) (.const (.int .i64 1))⟩,
 ⟨some 1, none, .mov (.tmp 9)⟩]))))))
 (.seq (.ops [⟨some 18, none, .mov (.tmp 1)⟩,
 ⟨some 4, none, .mov (.tmp 18)⟩])
 .ret)))⟩
theorem ok102 : compF Tryz.prog Tryz.f102 = some c102 := by kernel_rfl
def c103 : CF := ⟨20, [],
 (.seq (.ops [⟨some 2, none, .mov (.tmp 0)⟩,
 ⟨some 3, none, .nilck (.tmp 2)⟩,
 ⟨some 4, none, .fad (.tmp 3) 0⟩,
 ⟨some 5, none, .ld1 (.tmp 4)⟩,
 ⟨some 6, none, .eqn 0 false true (.tmp 5) (.const (.pointer none))⟩])
 (.cond (.tmp 6)
 (.ops [⟨some 7, none, .mov (.tmp 0)⟩,
 ⟨some 8, none, .mov (.tmp 0)⟩,
 ⟨some 9, none, .tou (.tmp 8)⟩,
 ⟨some 10, none, .call (.func 155) [(.tmp 9)]⟩,
 ⟨some 11, none, .fru 93 2 (.tmp 10)⟩,
 ⟨some 12, none, .nilck (.tmp 7)⟩,
 ⟨some 13, none, .fad (.tmp 12) 0⟩,
 ⟨none, none, .st 1 (.tmp 13) (.tmp 11)⟩])
 (.seq (.ops [⟨some 14, none, .mov (.tmp 0)⟩,
 ⟨some 15, none, .nilck (.tmp 14)⟩,
 ⟨some 16, none, .fad (.tmp 15) 0⟩,
 ⟨some 17, none, .ld1 (.tmp 16)⟩,
 ⟨some 18, none, .mov (.tmp 0)⟩,
 ⟨some 19, none, .eqn 0 true false (.tmp 17) (.tmp 18)⟩])
 (.cond (.tmp 19)
 .bad
 .skip))))⟩
theorem ok103 : compF Tryz.prog Tryz.f103 = some c103 := by kernel_rfl
def c104 : CF := ⟨15, [.tmp 2],
 (.seq (.ops [⟨some 2, none, .mov (.const (.string ⟨#[]⟩))⟩])
 (.seq (.seq (.ops [⟨some 3, none, .mov (.tmp 0)⟩,
 ⟨some 4, none, .bin .lss (.tmp 3) (.const (.int .i64 10))⟩])
 (.cond (.tmp 4)
 (.seq (.ops [⟨some 5, none, .mov (.tmp 0)⟩,
 ⟨some 6, none, .mov (.tmp 0)⟩,
 ⟨some 7, none, .bin .add (.tmp 6) (.const (.int .i64 1))⟩,
 ⟨some 8, none, .sls (.const (.string ⟨#[48, 49, 50, 51, 52, 53, 54, 55, 56, 57, 97, 98, 99, 100, 101, 102, 103, 104, 105, 106, 107, 108, 109, 110, 111, 112, 113, 114, 115, 116, 117, 118, 119, 120, 121, 122]⟩)) (some (.tmp 5)) (some (.tmp 7))⟩,
 ⟨some 2, none, .mov (.tmp 8)⟩])
 .ret)
 .skip))
 (.seq (.ops [⟨some 9, none, .mov (.tmp 0)⟩,
 ⟨some 10, none, .bin .mul (.tmp 9) (.const (.int .i64 2))⟩,
 ⟨some 11, none, .mov (.tmp 0)⟩,
 ⟨some 12, none, .bin .mul (.tmp 11) (.const (.int .i64 2))⟩,
 ⟨some 13, none, .bin .add (.tmp 12) (.const (.int .i64 2))⟩,
 ⟨some 14, none, .sls (.const (.string ⟨#[48, 48, 48, 49, 48, 50, 48, 51, 48, 52, 48, 53, 48, 54, 48, 55, 48, 56, 48, 57, 49, 48, 49, 49, 49, 50, 49, 51, 49, 52, 49, 53, 49, 54, 49, 55, 49, 56, 49, 57, 50, 48, 50, 49, 50, 50, 50, 51, 50, 52, 50, 53, 50, 54, 50, 55, 50, 56, 50, 57, 51, 48, 51, 49, 51, 50, 51, 51, 51, 52, 51, 53, 51, 54, 51, 55, 51, 56, 51, 57, 52, 48, 52, 49, 52, 50, 52, 51, 52, 52, 52, 53, 52, 54, 52, 55, 52, 56, 52, 57, 53, 48, 53, 49, 53, 50, 53, 51, 53, 52, 53, 53, 53, 54, 53, 55, 53, 56, 53, 57, 54, 48, 54, 49, 54, 50, 54, 51, 54, 52, 54, 53, 54, 54, 54, 55, 54, 56, 54, 57, 55, 48, 55, 49, 55, 50, 55, 51, 55, 52, 55, 53, 55, 54, 55, 55, 55, 56, 55, 57, 56, 48, 56, 49, 56, 50, 56, 51, 56, 52, 56, 53, 56, 54, 56, 55, 56, 56, 56, 57, 57, 48, 57, 49, 57, 50, 57, 51, 57, 52, 57, 53, 57, 54, 57, 55, 57, 56, 57, 57]⟩)) (some (.tmp 10)) (some (.tmp 13))⟩,
 ⟨some 2, none, .mov (.tmp 14)⟩])
 .ret)))⟩
theorem ok104 : compF Tryz.prog Tryz.f104 = some c104 := by kernel_rfl
def c105 : CF := ⟨15, [.tmp 2],
 (.seq (.ops [⟨some 2, none, .mov (.const (.int .i64 0))⟩])
 (.seq (.ops [⟨some 4, none, .mov (.tmp 0)⟩,
 ⟨some 5, none, .call (.func 157) [(.tmp 4)]⟩,
 ⟨some 6, none, .call (.func 156) [(.tmp 5)]⟩,
 ⟨some 3, none, .mov (.tmp 6)⟩])
 (.seq (.ops [⟨some 7, none, .mov (.tmp 3)⟩,
 ⟨some 8, none, .mov (.tmp 0)⟩,
 ⟨some 9, none, .mov (.tmp 3)⟩,
 ⟨some 10, none, .iaa 20 1 (.global 0) (.tmp 9)⟩,
 ⟨some 11, none, .ld1 (.tmp 10)⟩,
 ⟨some 12, none, .bin .geq (.tmp 8) (.tmp 11)⟩,
 ⟨some 13, none, .call (.func 158) [(.tmp 12)]⟩,
 ⟨some 14, none, .bin .add (.tmp 7) (.tmp 13)⟩,
 ⟨some 2, none, .mov (.tmp 14)⟩])
 .ret)))⟩
theorem ok105 : compF Tryz.prog Tryz.f105 = some c105 := by kernel_rfl
def c106 : CF := ⟨167, [],
 (.seq (.ops [⟨some 17, none, .mov (.tmp 0)⟩,
 ⟨some 18, none, .lnl (.tmp 17)⟩,
 ⟨some 4, none, .mov (.tmp 18)⟩])
 (.seq (.block 0 (.loop (.seq (.seq (.ops [⟨some 19, none, .mov (.tmp 4)⟩,
 ⟨some 20, none, .bin .geq (.tmp 19) (.const (.int .i64 8))⟩])
 (.cond (.tmp 20)
 .skip
 (.exit 0)))
 (.block 1 (.seq (.ops [⟨some 21, none, .mov (.tmp 1)⟩,
 ⟨some 22, none, .bin .rem (.tmp 21) (.const (.int .u64 100000000))⟩,
 ⟨some 23, none, .cvi .u32 (.tmp 22)⟩,
 ⟨some 5, none, .mov (.tmp 23)⟩])
 (.seq (.ops [⟨some 24, none, .mov (.tmp 1)⟩,
 ⟨some 25, none, .bin .quo (.tmp 24) (.const (.int .u64 100000000))⟩,
 ⟨some 1, none, .mov (.tmp 25)⟩])
 (.seq (.ops [⟨some 26, none, .mov (.tmp 5)⟩,
 ⟨some 27, none, .bin .quo (.tmp 26) (.const (.int .u32 10000))⟩,
 ⟨some 28, none, .mov (.tmp 5)⟩,
 ⟨some 29, none, .bin .rem (.tmp 28) (.const (.int .u32 10000))⟩,
 ⟨some 6, none, .mov (.tmp 27)⟩,
 ⟨some 7, none, .mov (.tmp 29)⟩])
 (.seq (.ops [⟨some 30, none, .mov (.tmp 7)⟩,
 ⟨some 31, none, .bin .quo (.tmp 30) (.const (.int .u32 100))⟩,
 ⟨some 32, none, .bin .mul (.tmp 31) (.const (.int .u32 2))⟩,
 ⟨some 33, none, .mov (.tmp 7)⟩,
 ⟨some 34, none, .bin .rem (.tmp 33) (.const (.int .u32 100))⟩,
 ⟨some 35, none, .bin .mul (.tmp 34) (.const (.int .u32 2))⟩,
 ⟨some 8, none, .mov (.tmp 32)⟩,
 ⟨some 9, none, .mov (.tmp 35)⟩])
 (.seq (.ops [⟨some 36, none, .mov (.tmp 6)⟩,
 ⟨some 37, none, .bin .quo (.tmp 36) (.const (.int .u32 100))⟩,
 ⟨some 38, none, .bin .mul (.tmp 37) (.const (.int .u32 2))⟩,
 ⟨some 39, none, .mov (.tmp 6)⟩,
 ⟨some 40, none, .bin .rem (.tmp 39) (.const (.int .u32 100))⟩,
 ⟨some 41, none, .bin .mul (.tmp 40) (.const (.int .u32 2))⟩,
 ⟨some 10, none, .mov (.tmp 38)⟩,
 ⟨some 11, none, .mov (.tmp 41)⟩])
 (.seq (.draw [⟨some 42, none, .mov (.tmp 0)⟩,
 ⟨some 43, none, .mov (.tmp 4)⟩,
 ⟨some 44, none, .bin .sub (.tmp 43) (.const (.int .i64 1))⟩,
 ⟨some 45, none, .mov (.tmp 0)⟩,
 ⟨some 46, none, .mov (.tmp 4)⟩,
 ⟨some 47, none, .bin .sub (.tmp 46) (.const (.int .i64 2))⟩,
 ⟨some 48, none, .mov (.tmp 9)⟩,
 ⟨some 49, none, .bin .add (.tmp 48) (.const (.int .u32 1))⟩,
 ⟨some 50, none, .ids (.const (.string ⟨#[48, 48, 48, 49, 48, 50, 48, 51, 48, 52, 48, 53, 48, 54, 48, 55, 48, 56, 48, 57, 49, 48, 49, 49, 49, 50, 49, 51, 49, 52, 49, 53, 49, 54, 49, 55, 49, 56, 49, 57, 50, 48, 50, 49, 50, 50, 50, 51, 50, 52, 50, 53, 50, 54, 50, 55, 50, 56, 50, 57, 51, 48, 51, 49, 51, 50, 51, 51, 51, 52, 51, 53, 51, 54, 51, 55, 51, 56, 51, 57, 52, 48, 52, 49, 52, 50, 52, 51, 52, 52, 52, 53, 52, 54, 52, 55, 52, 56, 52, 57, 53, 48, 53, 49, 53, 50, 53, 51, 53, 52, 53, 53, 53, 54, 53, 55, 53, 56, 53, 57, 54, 48, 54, 49, 54, 50, 54, 51, 54, 52, 54, 53, 54, 54, 54, 55, 54, 56, 54, 57, 55, 48, 55, 49, 55, 50, 55, 51, 55, 52, 55, 53, 55, 54, 55, 55, 55, 56, 55, 57, 56, 48, 56, 49, 56, 50, 56, 51, 56, 52, 56, 53, 56, 54, 56, 55, 56, 56, 56, 57, 57, 48, 57, 49, 57, 50, 57, 51, 57, 52, 57, 53, 57, 54, 57, 55, 57, 56, 57, 57]⟩)) (.tmp 49)⟩,
 ⟨some 51, none, .mov (.tmp 9)⟩,
 ⟨some 52, none, .ids (.const (.string ⟨#[48, 48, 48, 49, 48, 50, 48, 51, 48, 52, 48, 53, 48, 54, 48, 55, 48, 56, 48, 57, 49, 48, 49, 49, 49, 50, 49, 51, 49, 52, 49, 53, 49, 54, 49, 55, 49, 56, 49, 57, 50, 48, 50, 49, 50, 50, 50, 51, 50, 52, 50, 53, 50, 54, 50, 55, 50, 56, 50, 57, 51, 48, 51, 49, 51, 50, 51, 51, 51, 52, 51, 53, 51, 54, 51, 55, 51, 56, 51, 57, 52, 48, 52, 49, 52, 50, 52, 51, 52, 52, 52, 53, 52, 54, 52, 55, 52, 56, 52, 57, 53, 48, 53, 49, 53, 50, 53, 51, 53, 52, 53, 53, 53, 54, 53, 55, 53, 56, 53, 57, 54, 48, 54, 49, 54, 50, 54, 51, 54, 52, 54, 53, 54, 54, 54, 55, 54, 56, 54, 57, 55, 48, 55, 49, 55, 50, 55, 51, 55, 52, 55, 53, 55, 54, 55, 55, 55, 56, 55, 57, 56, 48, 56, 49, 56, 50, 56, 51, 56, 52, 56, 53, 56, 54, 56, 55, 56, 56, 56, 57, 57, 48, 57, 49, 57, 50, 57, 51, 57, 52, 57, 53, 57, 54, 57, 55, 57, 56, 57, 57]⟩)) (.tmp 51)⟩,
 ⟨some 53, none, .iad 1 (.tmp 42) (.tmp 44)⟩,
 ⟨none, none, .st 1 (.tmp 53) (.tmp 50)⟩,
 ⟨some 54, none, .iad 1 (.tmp 45) (.tmp 47)⟩,
 ⟨none, none, .st 1 (.tmp 54) (.tmp 52)⟩] [(0, 1), (0, 2), (0, 3), (1, 3), (2, 3), (0, 4), (1, 4), (2, 4), (3, 4), (0, 5), (1, 5), (2, 5), (3, 5), (0, 6), (1, 6), (2, 6), (3, 6), (4, 6), (5, 6), (0, 7), (1, 7), (2, 7), (3, 7), (4, 7), (5, 7), (0, 8), (1, 8), (2, 8), (3, 8), (4, 8), (5, 8), (0, 9), (1, 9), (2, 9), (3, 9), (4, 9), (5, 9), (6, 9), (7, 9), (8, 9), (0, 10), (1, 10), (2, 10), (3, 10), (4, 10), (5, 10), (6, 10), (7, 10), (8, 10), (3, 11), (4, 11), (5, 11), (9, 11), (10, 11), (3, 12), (4, 12), (5, 12), (9, 12), (10, 12)])
 (.seq (.draw [⟨some 55, none, .mov (.tmp 0)⟩,
 ⟨some 56, none, .mov (.tmp 4)⟩,
 ⟨some 57, none, .bin .sub (.tmp 56) (.const (.int .i64 3))⟩,
 ⟨some 58, none, .mov (.tmp 0)⟩,
 ⟨some 59, none, .mov (.tmp 4)⟩,
 ⟨some 60, none, .bin .sub (.tmp 59) (.const (.int .i64 4))⟩,
 ⟨some 61, none, .mov (.tmp 8)⟩,
 ⟨some 62, none, .bin .add (.tmp 61) (.const (.int .u32 1))⟩,
 ⟨some 63, none, .ids (.const (.string ⟨#[48, 48, 48, 49, 48, 50, 48, 51, 48, 52, 48, 53, 48, 54, 48, 55, 48, 56, 48, 57, 49, 48, 49, 49, 49, 50, 49, 51, 49, 52, 49, 53, 49, 54, 49, 55, 49, 56, 49, 57, 50, 48, 50, 49, 50, 50, 50, 51, 50, 52, 50, 53, 50, 54, 50, 55, 50, 56, 50, 57, 51, 48, 51, 49, 51, 50, 51, 51, 51, 52, 51, 53, 51, 54, 51, 55, 51, 56, 51, 57, 52, 48, 52, 49, 52, 50, 52, 51, 52, 52, 52, 53, 52, 54, 52, 55, 52, 56, 52, 57, 53, 48, 53, 49, 53, 50, 53, 51, 53, 52, 53, 53, 53, 54, 53, 55, 53, 56, 53, 57, 54, 48, 54, 49, 54, 50, 54, 51, 54, 52, 54, 53, 54, 54, 54, 55, 54, 56, 54, 57, 55, 48, 55, 49, 55, 50, 55, 51, 55, 52, 55, 53, 55, 54, 55, 55, 55, 56, 55, 57, 56, 48, 56, 49, 56, 50, 56, 51, 56, 52, 56, 53, 56, 54, 56, 55, 56, 56, 56, 57, 57, 48, 57, 49, 57, 50, 57, 51, 57, 52, 57, 53, 57, 54, 57, 55, 57, 56, 57, 57]⟩)) (.tmp 62)⟩,
 ⟨some 64, none, .mov (.tmp 8)⟩,
 ⟨some 65, none, .ids (.const (.string ⟨#[48, 48, 48, 49, 48, 50, 48, 51, 48, 52, 48, 53, 48, 54, 48, 55, 48, 56, 48, 57, 49, 48, 49, 49, 49, 50, 49, 51, 49, 52, 49, 53, 49, 54, 49, 55, 49, 56, 49, 57, 50, 48, 50, 49, 50, 50, 50, 51, 50, 52, 50, 53, 50, 54, 50, 55, 50, 56, 50, 57, 51, 48, 51, 49, 51, 50, 51, 51, 51, 52, 51, 53, 51, 54, 51, 55, 51, 56, 51, 57, 52, 48, 52, 49, 52, 50, 52, 51, 52, 52, 52, 53, 52, 54, 52, 55, 52, 56, 52, 57, 53, 48, 53, 49, 53, 50, 53, 51, 53, 52, 53, 53, 53, 54, 53, 55, 53, 56, 53, 57, 54, 48, 54, 49, 54, 50, 54, 51, 54, 52, 54, 53, 54, 54, 54, 55, 54, 56, 54, 57, 55, 48, 55, 49, 55, 50, 55, 51, 55, 52, 55, 53, 55, 54, 55, 55, 55, 56, 55, 57, 56, 48, 56, 49, 56, 50, 56, 51, 56, 52, 56, 53, 56, 54, 56, 55, 56, 56, 56, 57, 57, 48, 57, 49, 57, 50, 57, 51, 57, 52, 57, 53, 57, 54, 57, 55, 57, 56, 57, 57]⟩)) (.tmp 64)⟩,
 ⟨some 66, none, .iad 1 (.tmp 55) (.tmp 57)⟩,
 ⟨none, none, .st 1 (.tmp 66) (.tmp 63)⟩,
 ⟨some 67, none, .iad 1 (.tmp 58) (.tmp 60)⟩,
 ⟨none, none, .st 1 (.tmp 67) (.tmp 65)⟩] [(0, 1), (0, 2), (0, 3), (1, 3), (2, 3), (0, 4), (1, 4), (2, 4), (3, 4), (0, 5), (1, 5), (2, 5), (3, 5), (0, 6), (1, 6), (2, 6), (3, 6), (4, 6), (5, 6), (0, 7), (1, 7), (2, 7), (3, 7), (4, 7), (5, 7), (0, 8), (1, 8), (2, 8), (3, 8), (4, 8), (5, 8), (0, 9), (1, 9), (2, 9), (3, 9), (4, 9), (5, 9), (6, 9), (7, 9), (8, 9), (0, 10), (1, 10), (2, 10), (3, 10), (4, 10), (5, 10), (6, 10), (7, 10), (8, 10), (3, 11), (4, 11), (5, 11), (9, 11), (10, 11), (3, 12), (4, 12), (5, 12), (9, 12), (10, 12)])
 (.seq (.draw [⟨some 68, none, .mov (.tmp 0)⟩,
 ⟨some 69, none, .mov (.tmp 4)⟩,
 ⟨some 70, none, .bin .sub (.tmp 69) (.const (.int .i64 5))⟩,
 ⟨some 71, none, .mov (.tmp 0)⟩,
 ⟨some 72, none, .mov (.tmp 4)⟩,
 ⟨some 73, none, .bin .sub (.tmp 72) (.const (.int .i64 6))⟩,
 ⟨some 74, none, .mov (.tmp 11)⟩,
 ⟨some 75, none, .bin .add (.tmp 74) (.const (.int .u32 1))⟩,
 ⟨some 76, none, .ids (.const (.string ⟨#[48, 48, 48, 49, 48, 50, 48, 51, 48, 52, 48, 53, 48, 54, 48, 55, 48, 56, 48, 57, 49, 48, 49, 49, 49, 50, 49, 51, 49, 52, 49, 53, 49, 54, 49, 55, 49, 56, 49, 57, 50, 48, 50, 49, 50, 50, 50, 51, 50, 52, 50, 53, 50, 54, 50, 55, 50, 56, 50, 57, 51, 48, 51, 49, 51, 50, 51, 51, 51, 52, 51, 53, 51, 54, 51, 55, 51, 56, 51, 57, 52, 48, 52, 49, 52, 50, 52, 51, 52, 52, 52, 53, 52, 54, 52, 55, 52, 56, 52, 57, 53, 48, 53, 49, 53, 50, 53, 51, 53, 52, 53, 53, 53, 54, 53, 55, 53, 56, 53, 57, 54, 48, 54, 49, 54, 50, 54, 51, 54, 52, 54, 53, 54, 54, 54, 55, 54, 56, 54, 57, 55, 48, 55, 49, 55, 50, 55, 51, 55, 52, 55, 53, 55, 54, 55, 55, 55, 56, 55, 57, 56, 48, 56, 49, 56, 50, 56, 51, 56, 52, 56, 53, 56, 54, 56, 55, 56, 56, 56, 57, 57, 48, 57, 49, 57, 50, 57, 51, 57, 52, 57, 53, 57, 54, 57, 55, 57, 56, 57, 57]⟩)) (.tmp 75)⟩,
 ⟨some 77, none, .mov (.tmp 11)⟩,
 ⟨some 78, none, .ids (.const (.string ⟨#[48, 48, 48, 49, 48, 50, 48, 51, 48, 52, 48, 53, 48, 54, 48, 55, 48, 56, 48, 57, 49, 48, 49, 49, 49, 50, 49, 51, 49, 52, 49, 53, 49, 54, 49, 55, 49, 56, 49, 57, 50, 48, 50, 49, 50, 50, 50, 51, 50, 52, 50, 53, 50, 54, 50, 55, 50, 56, 50, 57, 51, 48, 51, 49, 51, 50, 51, 51, 51, 52, 51, 53, 51, 54, 51, 55, 51, 56, 51, 57, 52, 48, 52, 49, 52, 50, 52, 51, 52, 52, 52, 53, 52, 54, 52, 55, 52, 56, 52, 57, 53, 48, 53, 49, 53, 50, 53, 51, 53, 52, 53, 53, 53, 54, 53, 55, 53, 56, 53, 57, 54, 48, 54, 49, 54, 50, 54, 51, 54, 52, 54, 53, 54, 54, 54, 55, 54, 56, 54, 57, 55, 48, 55, 49, 55, 50, 55, 51, 55, 52, 55, 53, 55, 54, 55, 55, 55, 56, 55, 57, 56, 48, 56, 49, 56, 50, 56, 51, 56, 52, 56, 53, 56, 54, 56, 55, 56, 56, 56, 57, 57, 48, 57, 49, 57, 50, 57, 51, 57, 52, 57, 53, 57, 54, 57, 55, 57, 56, 57, 57]⟩)) (.tmp 77)⟩,
 ⟨some 79, none, .iad 1 (.tmp 68) (.tmp 70)⟩,
 ⟨none, none, .st 1 (.tmp 79) (.tmp 76)⟩,
 ⟨some 80, none, .iad 1 (.tmp 71) (.tmp 73)⟩,
 ⟨none, none, .st 1 (.tmp 80) (.tmp 78)⟩] [(0, 1), (0, 2), (0, 3), (1, 3), (2, 3), (0, 4), (1, 4), (2, 4), (3, 4), (0, 5), (1, 5), (2, 5), (3, 5), (0, 6), (1, 6), (2, 6), (3, 6), (4, 6), (5, 6), (0, 7), (1, 7), (2, 7), (3, 7), (4, 7), (5, 7), (0, 8), (1, 8), (2, 8), (3, 8), (4, 8), (5, 8), (0, 9), (1, 9), (2, 9), (3, 9), (4, 9), (5, 9), (6, 9), (7, 9), (8, 9), (0, 10), (1, 10), (2, 10), (3, 10), (4, 10), (5, 10), (6, 10), (7, 10), (8, 10), (3, 11), (4, 11), (5, 11), (9, 11), (10, 11), (3, 12), (4, 12), (5, 12), (9, 12), (10, 12)])
 (.seq (.draw [⟨some 81, none, .mov (.tmp 0)⟩,
 ⟨some 82, none, .mov (.tmp 4)⟩,
 ⟨some 83, none, .bin .sub (.tmp 82) (.const (.int .i64 7))⟩,
 ⟨some 84, none, .mov (.tmp 0)⟩,
 ⟨some 85, none, .mov (.tmp 4)⟩,
 ⟨some 86, none, .bin .sub (.tmp 85) (.const (.int .i64 8))⟩,
 ⟨some 87, none, .mov (.tmp 10)⟩,
 ⟨some 88, none, .bin .add (.tmp 87) (.const (.int .u32 1))⟩,
 ⟨some 89, none, .ids (.const (.string ⟨#[48, 48, 48, 49, 48, 50, 48, 51, 48, 52, 48, 53, 48, 54, 48, 55, 48, 56, 48, 57, 49, 48, 49, 49, 49, 50, 49, 51, 49, 52, 49, 53, 49, 54, 49, 55, 49, 56, 49, 57, 50, 48, 50, 49, 50, 50, 50, 51, 50, 52, 50, 53, 50, 54, 50, 55, 50, 56, 50, 57, 51, 48, 51, 49, 51, 50, 51, 51, 51, 52, 51, 53, 51, 54, 51, 55, 51, 56, 51, 57, 52, 48, 52, 49, 52, 50, 52, 51, 52, 52, 52, 53, 52, 54, 52, 55, 52, 56, 52, 57, 53, 48, 53, 49, 53, 50, 53, 51, 53, 52, 53, 53, 53, 54, 53, 55, 53, 56, 53, 57, 54, 48, 54, 49, 54, 50, 54, 51, 54, 52, 54, 53, 54, 54, 54, 55, 54, 56, 54, 57, 55, 48, 55, 49, 55, 50, 55, 51, 55, 52, 55, 53, 55, 54, 55, 55, 55, 56, 55, 57, 56, 48, 56, 49, 56, 50, 56, 51, 56, 52, 56, 53, 56, 54, 56, 55, 56, 56, 56, 57, 57, 48, 57, 49, 57, 50, 57, 51, 57, 52, 57, 53, 57, 54, 57, 55, 57, 56, 57, 57]⟩)) (.tmp 88)⟩,
 ⟨some 90, none, .mov (.tmp 10)⟩,
 ⟨some 91, none, .ids (.const (.string ⟨#[48, 48, 48, 49, 48, 50, 48, 51, 48, 52, 48, 53, 48, 54, 48, 55, 48, 56, 48, 57, 49, 48, 49, 49, 49, 50, 49, 51, 49, 52, 49, 53, 49, 54, 49, 55, 49, 56, 49, 57, 50, 48, 50, 49, 50, 50, 50, 51, 50, 52, 50, 53, 50, 54, 50, 55, 50, 56, 50, 57, 51, 48, 51, 49, 51, 50, 51, 51, 51, 52, 51, 53, 51, 54, 51, 55, 51, 56, 51, 57, 52, 48, 52, 49, 52, 50, 52, 51, 52, 52, 52, 53, 52, 54, 52, 55, 52, 56, 52, 57, 53, 48, 53, 49, 53, 50, 53, 51, 53, 52, 53, 53, 53, 54, 53, 55, 53, 56, 53, 57, 54, 48, 54, 49, 54, 50, 54, 51, 54, 52, 54, 53, 54, 54, 54, 55, 54, 56, 54, 57, 55, 48, 55, 49, 55, 50, 55, 51, 55, 52, 55, 53, 55, 54, 55, 55, 55, 56, 55, 57, 56, 48, 56, 49, 56, 50, 56, 51, 56, 52, 56, 53, 56, 54, 56, 55, 56, 56, 56, 57, 57, 48, 57, 49, 57, 50, 57, 51, 57, 52, 57, 53, 57, 54, 57, 55, 57, 56, 57, 57]⟩)) (.tmp 90)⟩,
 ⟨some 92, none, .iad 1 (.tmp 81) (.tmp 83)⟩,
 ⟨none, none, .st 1 (.tmp 92) (.tmp 89)⟩,
 ⟨some 93, none, .iad 1 (.tmp 84) (.tmp 86)⟩,
 ⟨none, none, .st 1 (.tmp 93) (.tmp 91)⟩] [(0, 1), (0, 2), (0, 3), (1, 3), (2, 3), (0, 4), (1, 4), (2, 4), (3, 4), (0, 5), (1, 5), (2, 5), (3, 5), (0, 6), (1, 6), (2, 6), (3, 6), (4, 6), (5, 6), (0, 7), (1, 7), (2, 7), (3, 7), (4, 7), (5, 7), (0, 8), (1, 8), (2, 8), (3, 8), (4, 8), (5, 8), (0, 9), (1, 9), (2, 9), (3, 9), (4, 9), (5, 9), (6, 9), (7, 9), (8, 9), (0, 10), (1, 10), (2, 10), (3, 10), (4, 10), (5, 10), (6, 10), (7, 10), (8, 10), (3, 11), (4, 11), (5, 11), (9, 11), (10, 11), (3, 12), (4, 12), (5, 12), (9, 12), (10, 12)])
 (.ops [⟨some 94, none, .mov (.tmp 4)⟩,
 ⟨some 95, none, .bin .sub (.tmp 94) (.const (.int .i64 8))⟩,
 ⟨some 4, none, .mov (.tmp 95)⟩]))))))))))))))
 (.seq (.ops [⟨some 96, none, .mov (.tmp 1)⟩,
 ⟨some 97, none, .cvi .u32 (.tmp 96)⟩,
 ⟨some 12, none, .mov (.tmp 97)⟩])
 (.seq (.seq (.ops [⟨some 98, none, .mov (.tmp 4)⟩,
 ⟨some 99, none, .bin .geq (.tmp 98) (.const (.int .i64 4))⟩])
 (.cond (.tmp 99)
 (.seq (.ops [⟨some 100, none, .mov (.tmp 12)⟩,
 ⟨some 101, none, .bin .rem (.tmp 100) (.const (.int .u32 10000))⟩,
 ⟨some 13, none, .mov (.tmp 101)⟩])
 (.seq (.ops [⟨some 102, none, .mov (.tmp 12)⟩,
 ⟨some 103, none, .bin .quo (.tmp 102) (.const (.int .u32 10000))⟩,
 ⟨some 12, none, .mov (.tmp 103)⟩])
 (.seq (.ops [⟨some 104, none, .mov (.tmp 13)⟩,
 ⟨some 105, none, .bin .quo (.tmp 104) (.const (.int .u32 100))⟩,
 ⟨some 106, none, .bin .mul (.tmp 105) (.const (.int .u32 2))⟩,
 ⟨some 107, none, .mov (.tmp 13)⟩,
 ⟨some 108, none, .bin .rem (.tmp 107) (.const (.int .u32 100))⟩,
 ⟨some 109, none, .bin .mul (.tmp 108) (.const (.int .u32 2))⟩,
 ⟨some 14, none, .mov (.tmp 106)⟩,
 ⟨some 15, none, .mov (.tmp 109)⟩])
 (.seq (.draw [⟨some 110, none, .mov (.tmp 0)⟩,
 ⟨some 111, none, .mov (.tmp 4)⟩,
 ⟨some 112, none, .bin .sub (.tmp 111) (.const (.int .i64 1))⟩,
 ⟨some 113, none, .mov (.tmp 0)⟩,
 ⟨some 114, none, .mov (.tmp 4)⟩,
 ⟨some 115, none, .bin .sub (.tmp 114) (.const (.int .i64 2))⟩,
 ⟨some 116, none, .mov (.tmp 15)⟩,
 ⟨some 117, none, .bin .add (.tmp 116) (.const (.int .u32 1))⟩,
 ⟨some 118, none, .ids (.const (.string ⟨#[48, 48, 48, 49, 48, 50, 48, 51, 48, 52, 48, 53, 48, 54, 48, 55, 48, 56, 48, 57, 49, 48, 49, 49, 49, 50, 49, 51, 49, 52, 49, 53, 49, 54, 49, 55, 49, 56, 49, 57, 50, 48, 50, 49, 50, 50, 50, 51, 50, 52, 50, 53, 50, 54, 50, 55, 50, 56, 50, 57, 51, 48, 51, 49, 51, 50, 51, 51, 51, 52, 51, 53, 51, 54, 51, 55, 51, 56, 51, 57, 52, 48, 52, 49, 52, 50, 52, 51, 52, 52, 52, 53, 52, 54, 52, 55, 52, 56, 52, 57, 53, 48, 53, 49, 53, 50, 53, 51, 53, 52, 53, 53, 53, 54, 53, 55, 53, 56, 53, 57, 54, 48, 54, 49, 54, 50, 54, 51, 54, 52, 54, 53, 54, 54, 54, 55, 54, 56, 54, 57, 55, 48, 55, 49, 55, 50, 55, 51, 55, 52, 55, 53, 55, 54, 55, 55, 55, 56, 55, 57, 56, 48, 56, 49, 56, 50, 56, 51, 56, 52, 56, 53, 56, 54, 56, 55, 56, 56, 56, 57, 57, 48, 57, 49, 57, 50, 57, 51, 57, 52, 57, 53, 57, 54, 57, 55, 57, 56, 57, 57]⟩)) (.tmp 117)⟩,
 ⟨some 119, none, .mov (.tmp 15)⟩,
 ⟨some 120, none, .ids (.const (.string ⟨#[48, 48, 48, 49, 48, 50, 48, 51, 48, 52, 48, 53, 48, 54, 48, 55, 48, 56, 48, 57, 49, 48, 49, 49, 49, 50, 49, 51, 49, 52, 49, 53, 49, 54, 49, 55, 49, 56, 49, 57, 50, 48, 50, 49, 50, 50, 50, 51, 50, 52, 50, 53, 50, 54, 50, 55, 50, 56, 50, 57, 51, 48, 51, 49, 51, 50, 51, 51, 51, 52, 51, 53, 51, 54, 51, 55, 51, 56, 51, 57, 52, 48, 52, 49, 52, 50, 52, 51, 52, 52, 52, 53, 52, 54, 52, 55, 52, 56, 52, 57, 53, 48, 53, 49, 53, 50, 53, 51, 53, 52, 53, 53, 53, 54, 53, 55, 53, 56, 53, 57, 54, 48, 54, 49, 54, 50, 54, 51, 54, 52, 54, 53, 54, 54, 54, 55, 54, 56, 54, 57, 55, 48, 55, 49, 55, 50, 55, 51, 55, 52, 55, 53, 55, 54, 55, 55, 55, 56, 55, 57, 56, 48, 56, 49, 56, 50, 56, 51, 56, 52, 56, 53, 56, 54, 56, 55, 56, 56, 56, 57, 57, 48, 57, 49, 57, 50, 57, 51, 57, 52, 57, 53, 57, 54, 57, 55, 57, 56, 57, 57]⟩)) (.tmp 119)⟩,
 ⟨some 121, none, .iad 1 (.tmp 110) (.tmp 112)⟩,
 ⟨none, none, .st 1 (.tmp 121) (.tmp 118)⟩,
 ⟨some 122, none, .iad 1 (.tmp 113) (.tmp 115)⟩,
 ⟨none, none, .st 1 (.tmp 122) (.tmp 120)⟩] [(0, 1), (0, 2), (0, 3), (1, 3), (2, 3), (0, 4), (1, 4), (2, 4), (3, 4), (0, 5), (1, 5), (2, 5), (3, 5), (0, 6), (1, 6), (2, 6), (3, 6), (4, 6), (5, 6), (0, 7), (1, 7), (2, 7), (3, 7), (4, 7), (5, 7), (0, 8), (1, 8), (2, 8), (3, 8), (4, 8), (5, 8), (0, 9), (1, 9), (2, 9), (3, 9), (4, 9), (5, 9), (6, 9), (7, 9), (8, 9), (0, 10), (1, 10), (2, 10), (3, 10), (4, 10), (5, 10), (6, 10), (7, 10), (8, 10), (3, 11), (4, 11), (5, 11), (9, 11), (10, 11), (3, 12), (4, 12), (5, 12), (9, 12), (10, 12)])
 (.seq (.draw [⟨some 123, none, .mov (.tmp 0)⟩,
 ⟨some 124, none, .mov (.tmp 4)⟩,
 ⟨some 125, none, .bin .sub (.tmp 124) (.const (.int .i64 3))⟩,
 ⟨some 126, none, .mov (.tmp 0)⟩,
 ⟨some 127, none, .mov (.tmp 4)⟩,
 ⟨some 128, none, .bin .sub (.tmp 127) (.const (.int .i64 4))⟩,
 ⟨some 129, none, .mov (.tmp 14)⟩,
 ⟨some 130, none, .bin .add (.tmp 129) (.const (.int .u32 1))⟩,
 ⟨some 131, none, .ids (.const (.string ⟨#[48, 48, 48, 49, 48, 50, 48, 51, 48, 52, 48, 53, 48, 54, 48, 55, 48, 56, 48, 57, 49, 48, 49, 49, 49, 50, 49, 51, 49, 52, 49, 53, 49, 54, 49, 55, 49, 56, 49, 57, 50, 48, 50, 49, 50, 50, 50, 51, 50, 52, 50, 53, 50, 54, 50, 55, 50, 56, 50, 57, 51, 48, 51, 49, 51, 50, 51, 51, 51, 52, 51, 53, 51, 54, 51, 55, 51, 56, 51, 57, 52, 48, 52, 49, 52, 50, 52, 51, 52, 52, 52, 53, 52, 54, 52, 55, 52, 56, 52, 57, 53, 48, 53, 49, 53, 50, 53, 51, 53, 52, 53, 53, 53, 54, 53, 55, 53, 56, 53, 57, 54, 48, 54, 49, 54, 50, 54, 51, 54, 52, 54, 53, 54, 54, 54, 55, 54, 56, 54, 57, 55, 48, 55, 49, 55, 50, 55, 51, 55, 52, 55, 53, 55, 54, 55, 55, 55, 56, 55, 57, 56, 48, 56, 49, 56, 50, 56, 51, 56, 52, 56, 53, 56, 54, 56, 55, 56, 56, 56, 57, 57, 48, 57, 49, 57, 50, 57, 51, 57, 52, 57, 53, 57, 54, 57, 55, 57, 56, 57, 57]⟩)) (.tmp 130)⟩,
 ⟨some 132, none, .mov (.tmp 14)⟩,
 ⟨some 133, none, .ids (.const (.string ⟨#[48, 48, 48, 49, 48, 50, 48, 51, 48, 52, 48, 53, 48, 54, 48, 55, 48, 56, 48, 57, 49, 48, 49, 49, 49, 50, 49, 51, 49, 52, 49, 53, 49, 54, 49, 55, 49, 56, 49, 57, 50, 48, 50, 49, 50, 50, 50, 51, 50, 52, 50, 53, 50, 54, 50, 55, 50, 56, 50, 57, 51, 48, 51, 49, 51, 50, 51, 51, 51, 52, 51, 53, 51, 54, 51, 55, 51, 56, 51, 57, 52, 48, 52, 49, 52, 50, 52, 51, 52, 52, 52, 53, 52, 54, 52, 55, 52, 56, 52, 57, 53, 48, 53, 49, 53, 50, 53, 51, 53, 52, 53, 53, 53, 54, 53, 55, 53, 56, 53, 57, 54, 48, 54, 49, 54, 50, 54, 51, 54, 52, 54, 53, 54, 54, 54, 55, 54, 56, 54, 57, 55, 48, 55, 49, 55, 50, 55, 51, 55, 52, 55, 53, 55, 54, 55, 55, 55, 56, 55, 57, 56, 48, 56, 49, 56, 50, 56, 51, 56, 52, 56, 53, 56, 54, 56, 55, 56, 56, 56, 57, 57, 48, 57, 49, 57, 50, 57, 51, 57, 52, 57, 53, 57, 54, 57, 55, 57, 56, 57, 57]⟩)) (.tmp 132)⟩,
 ⟨some 134, none, .iad 1 (.tmp 123) (.tmp 125)⟩,
 ⟨none, none, .st 1 (.tmp 134) (.tmp 131)⟩,
 ⟨some 135, none, .iad 1 (.tmp 126) (.tmp 128)⟩,
 ⟨none, none, .st 1 (.tmp 135) (.tmp 133)⟩] [(0, 1), (0, 2), (0, 3), (1, 3), (2, 3), (0, 4), (1, 4), (2, 4), (3, 4), (0, 5), (1, 5), (2, 5), (3, 5), (0, 6), (1, 6), (2, 6), (3, 6), (4, 6), (5, 6), (0, 7), (1, 7), (2, 7), (3, 7), (4, 7), (5, 7), (0, 8), (1, 8), (2, 8), (3, 8), (4, 8), (5, 8), (0, 9), (1, 9), (2, 9), (3, 9), (4, 9), (5, 9), (6, 9), (7, 9), (8, 9), (0, 10), (1, 10), (2, 10), (3, 10), (4, 10), (5, 10), (6, 10), (7, 10), (8, 10), (3, 11), (4, 11), (5, 11), (9, 11), (10, 11), (3, 12), (4, 12), (5, 12), (9, 12), (10, 12)])
 (.ops [⟨some 136, none, .mov (.tmp 4)⟩,
 ⟨some 137, none, .bin .sub (.tmp 136) (.const (.int .i64 4))⟩,
 ⟨some 4, none, .mov (.tmp 137)⟩]))))))
 .skip))
 (.seq (.seq (.ops [⟨some 138, none, .mov (.tmp 4)⟩,
 ⟨some 139, none, .bin .geq (.tmp 138) (.const (.int .i64 2))⟩])
 (.cond (.tmp 139)
 (.seq (.ops [⟨some 140, none, .mov (.tmp 12)⟩,
 ⟨some 141, none, .bin .rem (.tmp 140) (.const (.int .u32 100))⟩,
 ⟨some 142, none, .bin .mul (.tmp 141) (.const (.int .u32 2))⟩,
 ⟨some 16, none, .mov (.tmp 142)⟩])
 (.seq (.ops [⟨some 143, none, .mov (.tmp 12)⟩,
 ⟨some 144, none, .bin .quo (.tmp 143) (.const (.int .u32 100))⟩,
 ⟨some 12, none, .mov (.tmp 144)⟩])
 (.seq (.draw [⟨some 145, none, .mov (.tmp 0)⟩,
 ⟨some 146, none, .mov (.tmp 4)⟩,
 ⟨some 147, none, .bin .sub (.tmp 146) (.const (.int .i64 1))⟩,
 ⟨some 148, none, .mov (.tmp 0)⟩,
 ⟨some 149, none, .mov (.tmp 4)⟩,
 ⟨some 150, none, .bin .sub (.tmp 149) (.const (.int .i64 2))⟩,
 ⟨some 151, none, .mov (.tmp 16)⟩,
 ⟨some 152, none, .bin .add (.tmp 151) (.const (.int .u32 1))⟩,
 ⟨some 153, none, .ids (.const (.string ⟨#[48, 48, 48, 49, 48, 50, 48, 51, 48, 52, 48, 53, 48, 54, 48, 55, 48, 56, 48, 57, 49, 48, 49, 49, 49, 50, 49, 51, 49, 52, 49, 53, 49, 54, 49, 55, 49, 56, 49, 57, 50, 48, 50, 49, 50, 50, 50, 51, 50, 52, 50, 53, 50, 54, 50, 55, 50, 56, 50, 57, 51, 48, 51, 49, 51, 50, 51, 51, 51, 52, 51, 53, 51, 54, 51, 55, 51, 56, 51, 57, 52, 48, 52, 49, 52, 50, 52, 51, 52, 52, 52, 53, 52, 54, 52, 55, 52, 56, 52, 57, 53, 48, 53, 49, 53, 50, 53, 51, 53, 52, 53, 53, 53, 54, 53, 55, 53, 56, 53, 57, 54, 48, 54, 49, 54, 50, 54, 51, 54, 52, 54, 53, 54, 54, 54, 55, 54, 56, 54, 57, 55, 48, 55, 49, 55, 50, 55, 51, 55, 52, 55, 53, 55, 54, 55, 55, 55, 56, 55, 57, 56, 48, 56, 49, 56, 50, 56, 51, 56, 52, 56, 53, 56, 54, 56, 55, 56, 56, 56, 57, 57, 48, 57, 49, 57, 50, 57, 51, 57, 52, 57, 53, 57, 54, 57, 55, 57, 56, 57, 57]⟩)) (.tmp 152)⟩,
 ⟨some 154, none, .mov (.tmp 16)⟩,
 ⟨some 155, none, .ids (.const (.string ⟨#[48, 48, 48, 49, 48, 50, 48, 51, 48, 52, 48, 53, 48, 54, 48, 55, 48, 56, 48, 57, 49, 48, 49, 49, 49, 50, 49, 51, 49, 52, 49, 53, 49, 54, 49, 55, 49, 56, 49, 57, 50, 48, 50, 49, 50, 50, 50, 51, 50, 52, 50, 53, 50, 54, 50, 55, 50, 56, 50, 57, 51, 48, 51, 49, 51, 50, 51, 51, 51, 52, 51, 53, 51, 54, 51, 55, 51, 56, 51, 57, 52, 48, 52, 49, 52, 50, 52, 51, 52, 52, 52, 53, 52, 54, 52, 55, 52, 56, 52, 57, 53, 48, 53, 49, 53, 50, 53, 51, 53, 52, 53, 53, 53, 54, 53, 55, 53, 56, 53, 57, 54, 48, 54, 49, 54, 50, 54, 51, 54, 52, 54, 53, 54, 54, 54, 55, 54, 56, 54, 57, 55, 48, 55, 49, 55, 50, 55, 51, 55, 52, 55, 53, 55, 54, 55, 55, 55, 56, 55, 57, 56, 48, 56, 49, 56, 50, 56, 51, 56, 52, 56, 53, 56, 54, 56, 55, 56, 56, 56, 57, 57, 48, 57, 49, 57, 50, 57, 51, 57, 52, 57, 53, 57, 54, 57, 55, 57, 56, 57, 57]⟩)) (.tmp 154)⟩,
 ⟨some 156, none, .iad 1 (.tmp 145) (.tmp 147)⟩,
 ⟨none, none, .st 1 (.tmp 156) (.tmp 153)⟩,
 ⟨some 157, none, .iad 1 (.tmp 148) (.tmp 150)⟩,
 ⟨none, none, .st 1 (.tmp 157) (.tmp 155)⟩] [(0, 1), (0, 2), (0, 3), (1, 3), (2, 3), (0, 4), (1, 4), (2, 4), (3, 4), (0, 5), (1, 5), (2, 5), (3, 5), (0, 6), (1, 6), (2, 6), (3, 6), (4, 6), (5, 6), (0, 7), (1, 7), (2, 7), (3, 7), (4, 7), (5, 7), (0, 8), (1, 8), (2, 8), (3, 8), (4, 8), (5, 8), (0, 9), (1, 9), (2, 9), (3, 9), (4, 9), (5, 9), (6, 9), (7, 9), (8, 9), (0, 10), (1, 10), (2, 10), (3, 10), (4, 10), (5, 10), (6, 10), (7, 10), (8, 10), (3, 11), (4, 11), (5, 11), (9, 11), (10, 11), (3, 12), (4, 12), (5, 12), (9, 12), (10, 12)])
 (.ops [⟨some 158, none, .mov (.tmp 4)⟩,
 ⟨some 159, none, .bin .sub (.tmp 158) (.const (.int .i64 2))⟩,
 ⟨some 4, none, .mov (.tmp 159)⟩]))))
 .skip))
 (.seq (.ops [⟨some 160, none, .mov (.tmp 4)⟩,
 ⟨some 161, none, .bin .gtr (.tmp 160) (.const (.int .i64 0))⟩])
 (.cond (.tmp 161)
 (.ops [⟨some 162, none, .mov (.tmp 0)⟩,
 ⟨some 163, none, .mov (.tmp 12)⟩,
 ⟨some 164, none, .bin .add (.const (.int .u32 48)) (.tmp 163)⟩,
 ⟨some 165, none, .cvi .u8 (.tmp 164)⟩,
 ⟨some 166, none, .iad 1 (.tmp 162) (.const (.int .i64 0))⟩,
 ⟨none, none, .st 1 (.tmp 166) (.tmp 165)⟩])
 .skip)))))))⟩
theorem ok106 : compF Tryz.prog Tryz.f106 = some c106 := by kernel_rfl
def c107 : CF := ⟨102, [.tmp 10, .tmp 11],
 (.seq (.ops [⟨some 10, none, .mov (.const (.slice none 0 0))⟩,
 ⟨some 11, none, .mov (.const (.string ⟨#[]⟩))⟩])
 (.seq (.seq (.ops [⟨some 19, none, .mov (.tmp 2)⟩,
 ⟨some 20, none, .bin .lss (.tmp 19) (.const (.int .i64 2))⟩,
 ⟨some 21, none, .mov (.tmp 20)⟩,
 ⟨some 22, (some (21, false)), .mov (.tmp 2)⟩,
 ⟨some 23, (some (21, false)), .bin .eql (.tmp 22) (.const (.int .i64 10))⟩,
 ⟨some 24, none, .pick (.tmp 21) (.const (.bool true)) (.tmp 23)⟩,
 ⟨some 25, none, .mov (.tmp 24)⟩,
 ⟨some 26, (some (25, false)), .mov (.tmp 2)⟩,
 ⟨some 27, (some (25, false)), .bin .gtr (.tmp 26) (.const (.int .i64 36))⟩,
 ⟨some 28, none, .pick (.tmp 25) (.const (.bool true)) (.tmp 27)⟩])
 (.cond (.tmp 28)
 (.ops [⟨some 29, none, .ifc 9 (.const (.string ⟨#[115, 116, 114, 99, 111, 110, 118, 58, 32, 105, 108, 108, 101, 103, 97, 108, 32, 65, 112, 112, 101, 110, 100, 73, 110, 116, 47, 70, 111, 114, 109, 97, 116, 73, 110, 116, 32, 98, 97, 115, 101]⟩))⟩,
 ⟨none, none, .bad⟩])
 .skip))
 (.seq (.ops [⟨some 12, none, .newz [(.int .u8 0), (.int .u8 0), (.int .u8 0), (.int .u8 0), (.int .u8 0), (.int .u8 0), (.int .u8 0), (.int .u8 0), (.int .u8 0), (.int .u8 0), (.int .u8 0), (.int .u8 0), (.int .u8 0), (.int .u8 0), (.int .u8 0), (.int .u8 0), (.int .u8 0), (.int .u8 0), (.int .u8 0), (.int .u8 0), (.int .u8 0), (.int .u8 0), (.int .u8 0), (.int .u8 0), (.int .u8 0), (.int .u8 0), (.int .u8 0), (.int .u8 0), (.int .u8 0), (.int .u8 0), (.int .u8 0), (.int .u8 0), (.int .u8 0), (.int .u8 0), (.int .u8 0), (.int .u8 0), (.int .u8 0), (.int .u8 0), (.int .u8 0), (.int .u8 0), (.int .u8 0), (.int .u8 0), (.int .u8 0), (.int .u8 0), (.int .u8 0), (.int .u8 0), (.int .u8 0), (.int .u8 0), (.int .u8 0), (.int .u8 0), (.int .u8 0), (.int .u8 0), (.int .u8 0), (.int .u8 0), (.int .u8 0), (.int .u8 0), (.int .u8 0), (.int .u8 0), (.int .u8 0), (.int .u8 0), (.int .u8 0), (.int .u8 0), (.int .u8 0), (.int .u8 0), (.int .u8 0)]⟩])
 (.seq (.ops [⟨some 13, none, .mov (.const (.int .i64 65))⟩])
 (.seq (.seq (.ops [⟨some 30, none, .mov (.tmp 3)⟩])
 (.cond (.tmp 30)
 (.ops [⟨some 31, none, .mov (.tmp 1)⟩,
 ⟨some 32, none, .un .neg (.tmp 31)⟩,
 ⟨some 1, none, .mov (.tmp 32)⟩])
 .skip))
 (.seq (.seq (.ops [⟨some 33, none, .mov (.tmp 2)⟩,
 ⟨some 34, none, .call (.func 159) [(.tmp 33)]⟩])
 (.cond (.tmp 34)
 (.seq (.ops [⟨some 35, none, .mov (.tmp 2)⟩,
 ⟨some 36, none, .cvi .u64 (.tmp 35)⟩,
 ⟨some 37, none, .call (.func 160) [(.tmp 36)]⟩,
 ⟨some 38, none, .cvi .u64 (.tmp 37)⟩,
 ⟨some 14, none, .mov (.tmp 38)⟩])
 (.seq (.ops [⟨some 39, none, .mov (.tmp 2)⟩,
 ⟨some 40, none, .cvi .u64 (.tmp 39)⟩,
 ⟨some 15, none, .mov (.tmp 40)⟩])
 (.seq (.ops [⟨some 41, none, .mov (.tmp 2)⟩,
 ⟨some 42, none, .cvi .u64 (.tmp 41)⟩,
 ⟨some 43, none, .bin .sub (.tmp 42) (.const (.int .u64 1))⟩,
 ⟨some 16, none, .mov (.tmp 43)⟩])
 (.seq (.block 0 (.loop (.seq (.seq (.ops [⟨some 44, none, .mov (.tmp 1)⟩,
 ⟨some 45, none, .mov (.tmp 15)⟩,
 ⟨some 46, none, .bin .geq (.tmp 44) (.tmp 45)⟩])
 (.cond (.tmp 46)
 .skip
 (.exit 0)))
 (.block 1 (.seq (.ops [⟨some 47, none, .mov (.tmp 13)⟩,
 ⟨some 48, none, .bin .sub (.tmp 47) (.const (.int .i64 1))⟩,
 ⟨some 13, none, .mov (.tmp 48)⟩])
 (.seq (.ops [⟨some 49, none, .mov (.tmp 13)⟩,
 ⟨some 50, none, .mov (.tmp 1)⟩,
 ⟨some 51, none, .mov (.tmp 16)⟩,
 ⟨some 52, none, .bin .and (.tmp 50) (.tmp 51)⟩,
 ⟨some 53, none, .ids (.const (.string ⟨#[48, 49, 50, 51, 52, 53, 54, 55, 56, 57, 97, 98, 99, 100, 101, 102, 103, 104, 105, 106, 107, 108, 109, 110, 111, 112, 113, 114, 115, 116, 117, 118, 119, 120, 121, 122]⟩)) (.tmp 52)⟩,
 ⟨some 54, none, .iaa 65 1 (.tmp 12) (.tmp 49)⟩,
 ⟨none, none, .st 1 (.tmp 54) (.tmp 53)⟩])
 (.ops [⟨some 55, none, .mov (.tmp 1)⟩,
 ⟨some 56, none, .mov (.tmp 14)⟩,
 ⟨some 57, none, .bin .shr (.tmp 55) (.tmp 56)⟩,
 ⟨some 1, none, .mov (.tmp 57)⟩])))))))
 (.seq (.ops [⟨some 58, none, .mov (.tmp 13)⟩,
 ⟨some 59, none, .bin .sub (.tmp 58) (.const (.int .i64 1))⟩,
 ⟨some 13, none, .mov (.tmp 59)⟩])
 (.ops [⟨some 60, none, .mov (.tmp 13)⟩,
 ⟨some 61, none, .mov (.tmp 1)⟩,
 ⟨some 62, none, .ids (.const (.string ⟨#[48, 49, 50, 51, 52, 53, 54, 55, 56, 57, 97, 98, 99, 100, 101, 102, 103, 104, 105, 106, 107, 108, 109, 110, 111, 112, 113, 114, 115, 116, 117, 118, 119, 120, 121, 122]⟩)) (.tmp 61)⟩,
 ⟨some 63, none, .iaa 65 1 (.tmp 12) (.tmp 60)⟩,
 ⟨none, none, .st 1 (.tmp 63) (.tmp 62)⟩]))))))
 (.seq (.ops [⟨some 64, none, .mov (.tmp 2)⟩,
 ⟨some 65, none, .cvi .u64 (.tmp 64)⟩,
 ⟨some 17, none, .mov (.tmp 65)⟩])
 (.seq (.block 2 (.loop (.seq (.seq (.ops [⟨some 66, none, .mov (.tmp 1)⟩,
 ⟨some 67, none, .mov (.tmp 17)⟩,
 ⟨some 68, none, .bin .geq (.tmp 66) (.tmp 67)⟩])
 (.cond (.tmp 68)
 .skip
 (.exit 2)))
 (.block 3 (.seq (.ops [⟨some 69, none, .mov (.tmp 13)⟩,
 ⟨some 70, none, .bin .sub (.tmp 69) (.const (.int .i64 1))⟩,
 ⟨some 13, none, .mov (.tmp 70)⟩])
 (.seq (.ops [⟨some 71, none, .mov (.tmp 1)⟩,
 ⟨some 72, none, .mov (.tmp 17)⟩,
 ⟨some 73, none, .bin .quo (.tmp 71) (.tmp 72)⟩,
 ⟨some 18, none, .mov (.tmp 73)⟩])
 (.seq (.ops [⟨some 74, none, .mov (.tmp 13)⟩,
 ⟨some 75, none, .mov (.tmp 1)⟩,
 ⟨some 76, none, .mov (.tmp 18)⟩,
 ⟨some 77, none, .mov (.tmp 17)⟩,
 ⟨some 78, none, .bin .mul (.tmp 76) (.tmp 77)⟩,
 ⟨some 79, none, .bin .sub (.tmp 75) (.tmp 78)⟩,
 ⟨some 80, none, .ids (.const (.string ⟨#[48, 49, 50, 51, 52, 53, 54, 55, 56, 57, 97, 98, 99, 100, 101, 102, 103, 104, 105, 106, 107, 108, 109, 110, 111, 112, 113, 114, 115, 116, 117, 118, 119, 120, 121, 122]⟩)) (.tmp 79)⟩,
 ⟨some 81, none, .iaa 65 1 (.tmp 12) (.tmp 74)⟩,
 ⟨none, none, .st 1 (.tmp 81) (.tmp 80)⟩])
 (.ops [⟨some 82, none, .mov (.tmp 18)⟩,
 ⟨some 1, none, .mov (.tmp 82)⟩]))))))))
 (.seq (.ops [⟨some 83, none, .mov (.tmp 13)⟩,
 ⟨some 84, none, .bin .sub (.tmp 83) (.const (.int .i64 1))⟩,
 ⟨some 13, none, .mov (.tmp 84)⟩])
 (.ops [⟨some 85, none, .mov (.tmp 13)⟩,
 ⟨some 86, none, .mov (.tmp 1)⟩,
 ⟨some 87, none, .ids (.const (.string ⟨#[48, 49, 50, 51, 52, 53, 54, 55, 56, 57, 97, 98, 99, 100, 101, 102, 103, 104, 105, 106, 107, 108, 109, 110, 111, 112, 113, 114, 115, 116, 117, 118, 119, 120, 121, 122]⟩)) (.tmp 86)⟩,
 ⟨some 88, none, .iaa 65 1 (.tmp 12) (.tmp 85)⟩,
 ⟨none, none, .st 1 (.tmp 88) (.tmp 87)⟩]))))))
 (.seq (.seq (.ops [⟨some 89, none, .mov (.tmp 3)⟩])
 (.cond (.tmp 89)
 (.seq (.ops [⟨some 90, none, .mov (.tmp 13)⟩,
 ⟨some 91, none, .bin .sub (.tmp 90) (.const (.int .i64 1))⟩,
 ⟨some 13, none, .mov (.tmp 91)⟩])
 (.ops [⟨some 92, none, .mov (.tmp 13)⟩,
 ⟨some 93, none, .iaa 65 1 (.tmp 12) (.tmp 92)⟩,
 ⟨none, none, .st 1 (.tmp 93) (.const (.int .u8 45))⟩]))
 .skip))
 (.seq (.seq (.ops [⟨some 94, none, .mov (.tmp 4)⟩])
 (.cond (.tmp 94)
 (.seq (.ops [⟨some 95, none, .mov (.tmp 0)⟩,
 ⟨some 96, none, .mov (.tmp 13)⟩,
 ⟨some 97, none, .sla 65 1 (.tmp 12) (some (.tmp 96)) none none⟩,
 ⟨some 98, none, .app 1 1 (Option.some 5) (.tmp 95) (.tmp 97)⟩,
 ⟨some 10, none, .mov (.tmp 98)⟩])
 .ret)
 .skip))
 (.seq (.ops [⟨some 99, none, .mov (.tmp 13)⟩,
 ⟨some 100, none, .sla 65 1 (.tmp 12) (some (.tmp 99)) none none⟩,
 ⟨some 101, none, .cvt (.tmp 100)⟩,
 ⟨some 11, none, .mov (.tmp 101)⟩])
 .ret)))))))))⟩
theorem ok107 : compF Tryz.prog Tryz.f107 = some c107 := by kernel_rfl
def c108 : CF := ⟨30, [.tmp 4],
 (.seq (.ops [⟨some 4, none, .mov (.const (.slice none 0 0))⟩])
 (.seq (.ops [⟨some 5, none, .mov (.const (.slice none 0 0))⟩])
 (.seq (.seq (.ops [⟨some 7, none, .mov (.tmp 1)⟩,
 ⟨some 8, none, .bin .add (.tmp 7) (.const (.int .i64 1))⟩,
 ⟨some 6, none, .mov (.tmp 8)⟩])
 (.block 0 (.loop (.seq (.seq (.ops [⟨some 9, none, .mov (.tmp 6)⟩,
 ⟨some 10, none, .mov (.tmp 0)⟩,
 ⟨some 11, none, .nilck (.tmp 10)⟩,
 ⟨some 12, none, .fad (.tmp 11) 1⟩,
 ⟨some 13, none, .ld1 (.tmp 12)⟩,
 ⟨some 14, none, .mov (.tmp 1)⟩,
 ⟨some 15, none, .iad 1 (.tmp 13) (.tmp 14)⟩,
 ⟨some 16, none, .ld1 (.tmp 15)⟩,
 ⟨some 17, none, .bin .lss (.tmp 9) (.tmp 16)⟩])
 (.cond (.tmp 17)
 .skip
 (.exit 0)))
 (.seq (.block 1 (.ops [⟨some 25, none, .mov (.tmp 5)⟩,
 ⟨some 26, none, .mov (.tmp 6)⟩,
 ⟨some 27, none, .lits [(.int .i64 0)] 1 [(0, 1, (.tmp 26))]⟩,
 ⟨some 28, none, .app 1 8 none (.tmp 25) (.tmp 27)⟩,
 ⟨some 5, none, .mov (.tmp 28)⟩]))
 (.ops [⟨some 18, none, .mov (.tmp 0)⟩,
 ⟨some 19, none, .nilck (.tmp 18)⟩,
 ⟨some 20, none, .fad (.tmp 19) 1⟩,
 ⟨some 21, none, .ld1 (.tmp 20)⟩,
 ⟨some 22, none, .mov (.tmp 6)⟩,
 ⟨some 23, none, .iad 1 (.tmp 21) (.tmp 22)⟩,
 ⟨some 24, none, .ld1 (.tmp 23)⟩,
 ⟨some 6, none, .mov (.tmp 24)⟩]))))))
 (.seq (.ops [⟨some 29, none, .mov (.tmp 5)⟩,
 ⟨some 4, none, .mov (.tmp 29)⟩])
 .ret))))⟩
theorem ok108 : compF Tryz.prog Tryz.f108 = some c108 := by kernel_rfl
def c109 : CF := ⟨41, [.tmp 8],
 (.seq (.ops [⟨some 5, none, .box (.tmp 1)⟩,
 ⟨some 8, none, .mov (.const (.slice none 0 0))⟩])
 (.seq (.ops [⟨some 12, none, .mov (.tmp 2)⟩,
 ⟨some 13, none, .cvi .i32 (.tmp 12)⟩,
 ⟨some 14, none, .mov (.tmp 3)⟩,
 ⟨some 15, none, .lnl (.tmp 14)⟩,
 ⟨some 16, none, .fad (.tmp 5) 5⟩,
 ⟨none, none, .st 1 (.tmp 16) (.tmp 13)⟩,
 ⟨some 17, none, .fad (.tmp 5) 1⟩,
 ⟨none, none, .st 1 (.tmp 17) (.tmp 15)⟩])
 (.seq (.ops [⟨some 18, none, .ld 6 (.tmp 5)⟩,
 ⟨some 19, none, .lits [(.int .i64 0), (.int .i64 0), (.int .i64 0), (.string ⟨#[]⟩), (.int .i32 0), (.int .i32 0)] 1 [(0, 6, (.tmp 18))]⟩,
 ⟨some 9, none, .mov (.tmp 19)⟩])
 (.seq (.seq (.ops [⟨some 20, none, .mov (.tmp 3)⟩,
 ⟨some 21, none, .lnl (.tmp 20)⟩,
 ⟨some 22, none, .mov (.const (.int .i64 0))⟩])
 (.block 0 (.loop (.seq (.ops [⟨some 23, none, .bin .lss (.tmp 22) (.tmp 21)⟩])
 (.seq (.cond (.tmp 23)
 .skip
 (.exit 0))
 (.seq (.block 1 (.seq (.ops [⟨some 24, none, .iad 1 (.tmp 20) (.tmp 22)⟩,
 ⟨some 25, none, .ld1 (.tmp 24)⟩,
 ⟨some 11, none, .mov (.tmp 25)⟩])
 (.seq (.seq (.ops [⟨some 26, none, .mov (.tmp 9)⟩,
 ⟨some 27, none, .lnl (.tmp 26)⟩,
 ⟨some 28, none, .mov (.tmp 11)⟩,
 ⟨some 29, none, .lnl (.tmp 28)⟩,
 ⟨some 30, none, .bin .add (.tmp 27) (.tmp 29)⟩,
 ⟨some 31, none, .bin .gtr (.tmp 30) (.const (.int .i64 2000))⟩])
 (.cond (.tmp 31)
 (.seq (.ops [⟨some 32, none, .mov (.tmp 0)⟩,
 ⟨some 33, none, .nilck (.tmp 32)⟩,
 ⟨some 34, none, .fad (.tmp 33) 1⟩,
 ⟨none, none, .st 1 (.tmp 34) (.const (.bool true))⟩])
 (.seq (.ops [⟨some 35, none, .mov (.tmp 9)⟩,
 ⟨some 8, none, .mov (.tmp 35)⟩])
 .ret))
 .skip))
 (.ops [⟨some 36, none, .mov (.tmp 9)⟩,
 ⟨some 37, none, .mov (.tmp 11)⟩,
 ⟨some 38, none, .app 6 48 none (.tmp 36) (.tmp 37)⟩,
 ⟨some 9, none, .mov (.tmp 38)⟩]))))
 (.ops [⟨some 39, none, .bin .add (.tmp 22) (.const (.int .i64 1))⟩,
 ⟨some 22, none, .mov (.tmp 39)⟩])))))))
 (.seq (.ops [⟨some 40, none, .mov (.tmp 9)⟩,
 ⟨some 8, none, .mov (.tmp 40)⟩])
 .ret)))))⟩
theorem ok109 : compF Tryz.prog Tryz.f109 = some c109 := by kernel_rfl
def c110 : CF := ⟨12, [.tmp 6],
 (.seq (.ops [⟨some 6, none, .mov (.const (.slice none 0 0))⟩])
 (.seq (.ops [⟨some 7, none, .mov (.tmp 0)⟩,
 ⟨some 8, none, .mov (.tmp 1)⟩,
 ⟨some 9, none, .agg [(.int .i64 0), (.int .i64 0), (.int .i64 0), (.string ⟨#[]⟩), (.int .i32 0), (.int .i32 0)] [(0, 1, (.const (.int .i64 2))), (2, 1, (.tmp 8))]⟩,
 ⟨some 10, none, .mov (.tmp 2)⟩,
 ⟨some 11, none, .call (.func 109) [(.tmp 7), (.tmp 9), (.tmp 10), (.const (.slice none 0 0))]⟩,
 ⟨some 6, none, .mov (.tmp 11)⟩])
 .ret))⟩
theorem ok110 : compF Tryz.prog Tryz.f110 = some c110 := by kernel_rfl
def c111 : CF := ⟨26, [.tmp 4],
 (.seq (.ops [⟨some 4, none, .mov (.const (.int .i64 0))⟩])
 (.seq (.ops [⟨some 6, none, .mov (.tmp 0)⟩,
 ⟨some 7, none, .lnl (.tmp 6)⟩,
 ⟨some 8, none, .bin .sub (.tmp 7) (.const (.int .i64 1))⟩,
 ⟨some 5, none, .mov (.tmp 8)⟩])
 (.seq (.block 0 (.loop (.seq (.seq (.ops [⟨some 9, none, .mov (.tmp 5)⟩,
 ⟨some 10, none, .bin .gtr (.tmp 9) (.const (.int .i64 0))⟩,
 ⟨some 11, none, .mov (.tmp 10)⟩,
 ⟨some 12, (some (11, true)), .mov (.tmp 0)⟩,
 ⟨some 13, (some (11, true)), .mov (.tmp 5)⟩,
 ⟨some 14, (some (11, true)), .iad 1 (.tmp 12) (.tmp 13)⟩,
 ⟨some 15, (some (11, true)), .ld1 (.tmp 14)⟩,
 ⟨some 16, (some (11, true)), .mov (.tmp 1)⟩,
 ⟨some 17, (some (11, true)), .bin .neq (.tmp 15) (.tmp 16)⟩,
 ⟨some 18, none, .pick (.tmp 11) (.tmp 17) (.const (.bool false))⟩])
 (.cond (.tmp 18)
 .skip
 (.exit 0)))
 (.block 1 (.ops [⟨some 19, none, .mov (.tmp 5)⟩,
 ⟨some 20, none, .bin .sub (.tmp 19) (.const (.int .i64 1))⟩,
 ⟨some 5, none, .mov (.tmp 20)⟩])))))
 (.seq (.ops [⟨some 21, none, .mov (.tmp 0)⟩,
 ⟨some 22, none, .lnl (.tmp 21)⟩,
 ⟨some 23, none, .bin .sub (.tmp 22) (.const (.int .i64 1))⟩,
 ⟨some 24, none, .mov (.tmp 5)⟩,
 ⟨some 25, none, .bin .sub (.tmp 23) (.tmp 24)⟩,
 ⟨some 4, none, .mov (.tmp 25)⟩])
 .ret))))⟩
theorem ok111 : compF Tryz.prog Tryz.f111 = some c111 := by kernel_rfl
def c112 : CF := ⟨66, [.tmp 4, .tmp 5, .tmp 6],
 (.seq (.ops [⟨some 4, none, .mov (.const (.slice none 0 0))⟩,
 ⟨some 5, none, .mov (.const (.slice none 0 0))⟩,
 ⟨some 6, none, .mov (.const (.int .i64 0))⟩])
 (.seq (.ops [⟨some 10, none, .mov (.tmp 0)⟩,
 ⟨some 11, none, .nilck (.tmp 10)⟩,
 ⟨some 12, none, .fad (.tmp 11) 0⟩,
 ⟨some 13, none, .ld1 (.tmp 12)⟩,
 ⟨some 14, none, .mov (.tmp 1)⟩,
 ⟨some 15, none, .call (.func 108) [(.tmp 13), (.tmp 14)]⟩,
 ⟨some 7, none, .mov (.tmp 15)⟩])
 (.seq (.ops [⟨some 16, none, .mov (.tmp 7)⟩,
 ⟨some 17, none, .mov (.tmp 7)⟩,
 ⟨some 18, none, .lnl (.tmp 17)⟩,
 ⟨some 19, none, .bin .sub (.tmp 18) (.const (.int .i64 1))⟩,
 ⟨some 20, none, .iad 1 (.tmp 16) (.tmp 19)⟩,
 ⟨some 21, none, .ld1 (.tmp 20)⟩,
 ⟨some 6, none, .mov (.tmp 21)⟩])
 (.seq (.seq (.ops [⟨some 22, none, .mov (.tmp 7)⟩,
 ⟨some 23, none, .mov (.tmp 7)⟩,
 ⟨some 24, none, .lnl (.tmp 23)⟩,
 ⟨some 25, none, .bin .sub (.tmp 24) (.const (.int .i64 1))⟩,
 ⟨some 26, none, .sl 1 (.tmp 22) none (some (.tmp 25)) none⟩,
 ⟨some 27, none, .lnl (.tmp 26)⟩,
 ⟨some 28, none, .mov (.const (.int .i64 0))⟩])
 (.block 0 (.loop (.seq (.ops [⟨some 29, none, .bin .lss (.tmp 28) (.tmp 27)⟩])
 (.seq (.cond (.tmp 29)
 .skip
 (.exit 0))
 (.seq (.block 1 (.seq (.ops [⟨some 30, none, .iad 1 (.tmp 26) (.tmp 28)⟩,
 ⟨some 31, none, .ld1 (.tmp 30)⟩,
 ⟨some 9, none, .mov (.tmp 31)⟩])
 (.seq (.ops [⟨some 32, none, .mov (.tmp 0)⟩,
 ⟨some 33, none, .nilck (.tmp 32)⟩,
 ⟨some 34, none, .fad (.tmp 33) 0⟩,
 ⟨some 35, none, .ld1 (.tmp 34)⟩,
 ⟨some 36, none, .nilck (.tmp 35)⟩,
 ⟨some 37, none, .fad (.tmp 36) 0⟩,
 ⟨some 38, none, .ld1 (.tmp 37)⟩,
 ⟨some 39, none, .mov (.tmp 9)⟩,
 ⟨some 40, none, .iad 7 (.tmp 38) (.tmp 39)⟩,
 ⟨some 41, none, .fad (.tmp 40) 0⟩,
 ⟨some 42, none, .ld1 (.tmp 41)⟩,
 ⟨some 43, none, .bin .eql (.tmp 42) (.const (.int .i64 9))⟩])
 (.cond (.tmp 43)
 (.ops [⟨some 44, none, .mov (.tmp 4)⟩,
 ⟨some 45, none, .mov (.tmp 0)⟩,
 ⟨some 46, none, .nilck (.tmp 45)⟩,
 ⟨some 47, none, .fad (.tmp 46) 0⟩,
 ⟨some 48, none, .ld1 (.tmp 47)⟩,
 ⟨some 49, none, .nilck (.tmp 48)⟩,
 ⟨some 50, none, .fad (.tmp 49) 0⟩,
 ⟨some 51, none, .ld1 (.tmp 50)⟩,
 ⟨some 52, none, .mov (.tmp 9)⟩,
 ⟨some 53, none, .iad 7 (.tmp 51) (.tmp 52)⟩,
 ⟨some 54, none, .fad (.tmp 53) 2⟩,
 ⟨some 55, none, .ld1 (.tmp 54)⟩,
 ⟨some 56, none, .lits [(.int .i64 0)] 1 [(0, 1, (.tmp 55))]⟩,
 ⟨some 57, none, .app 1 8 none (.tmp 44) (.tmp 56)⟩,
 ⟨some 4, none, .mov (.tmp 57)⟩])
 (.ops [⟨some 58, none, .mov (.tmp 5)⟩,
 ⟨some 59, none, .mov (.tmp 9)⟩,
 ⟨some 60, none, .lits [(.int .i64 0)] 1 [(0, 1, (.tmp 59))]⟩,
 ⟨some 61, none, .app 1 8 none (.tmp 58) (.tmp 60)⟩,
 ⟨some 5, none, .mov (.tmp 61)⟩])))))
 (.ops [⟨some 62, none, .bin .add (.tmp 28) (.const (.int .i64 1))⟩,
 ⟨some 28, none, .mov (.tmp 62)⟩])))))))
 (.seq (.ops [⟨some 63, none, .mov (.tmp 4)⟩,
 ⟨some 64, none, .mov (.tmp 5)⟩,
 ⟨some 65, none, .mov (.tmp 6)⟩,
 ⟨some 4, none, .mov (.tmp 63)⟩,
 ⟨some 5, none, .mov (.tmp 64)⟩,
 ⟨some 6, none, .mov (.tmp 65)⟩])
 .ret)))))⟩
theorem ok112 : compF Tryz.prog Tryz.f112 = some c112 := by kernel_rfl
def c113 : CF := ⟨19, [.tmp 10],
 (.seq (.ops [⟨some 10, none, .mov (.const (.slice none 0 0))⟩])
 (.seq (.ops [⟨some 11, none, .mov (.tmp 0)⟩,
 ⟨some 12, none, .mov (.tmp 2)⟩,
 ⟨some 13, none, .mov (.tmp 1)⟩,
 ⟨some 14, none, .agg [(.int .i64 0), (.int .i64 0), (.int .i64 0), (.string ⟨#[]⟩), (.int .i32 0), (.int .i32 0)] [(0, 1, (.const (.int .i64 8))), (2, 1, (.tmp 12)), (4, 1, (.tmp 13))]⟩,
 ⟨some 15, none, .mov (.tmp 3)⟩,
 ⟨some 16, none, .mov (.tmp 4)⟩,
 ⟨some 17, none, .lits [(.slice none 0 0)] 1 [(0, 1, (.tmp 16))]⟩,
 ⟨some 18, none, .call (.func 109) [(.tmp 11), (.tmp 14), (.tmp 15), (.tmp 17)]⟩,
 ⟨some 10, none, .mov (.tmp 18)⟩])
 .ret))⟩
theorem ok113 : compF Tryz.prog Tryz.f113 = some c113 := by kernel_rfl
def c114 : CF := ⟨13, [.tmp 4],
 (.seq (.ops [⟨some 4, none, .mov (.const (.slice none 0 0))⟩])
 (.seq (.ops [⟨some 5, none, .mov (.tmp 0)⟩,
 ⟨some 6, none, .mov (.tmp 0)⟩,
 ⟨some 7, none, .lnl (.tmp 6)⟩,
 ⟨some 8, none, .mov (.tmp 0)⟩,
 ⟨some 9, none, .lnl (.tmp 8)⟩,
 ⟨some 10, none, .sl 1 (.tmp 5) none (some (.tmp 7)) (some (.tmp 9))⟩,
 ⟨some 11, none, .mov (.tmp 1)⟩,
 ⟨some 12, none, .app 1 8 none (.tmp 10) (.tmp 11)⟩,
 ⟨some 4, none, .mov (.tmp 12)⟩])
 .ret))⟩
theorem ok114 : compF Tryz.prog Tryz.f114 = some c114 := by kernel_rfl
def c115 : CF := ⟨15, [.tmp 8],
 (.seq (.ops [⟨some 8, none, .mov (.const (.slice none 0 0))⟩])
 (.seq (.ops [⟨some 9, none, .mov (.tmp 0)⟩,
 ⟨some 10, none, .mov (.tmp 1)⟩,
 ⟨some 11, none, .agg [(.int .i64 0), (.int .i64 0), (.int .i64 0), (.string ⟨#[]⟩), (.int .i32 0), (.int .i32 0)] [(0, 1, (.const (.int .i64 9))), (4, 1, (.tmp 10))]⟩,
 ⟨some 12, none, .mov (.tmp 2)⟩,
 ⟨some 13, none, .mov (.tmp 3)⟩,
 ⟨some 14, none, .call (.func 109) [(.tmp 9), (.tmp 11), (.tmp 12), (.tmp 13)]⟩,
 ⟨some 8, none, .mov (.tmp 14)⟩])
 .ret))⟩
theorem ok115 : compF Tryz.prog Tryz.f115 = some c115 := by kernel_rfl
def c116 : CF := ⟨25, [.tmp 6],
 (.seq (.ops [⟨some 6, none, .mov (.const (.slice none 0 0))⟩])
 (.seq (.ops [⟨some 7, none, .mov (.const (.slice none 0 0))⟩])
 (.seq (.seq (.ops [⟨some 10, none, .mov (.tmp 1)⟩,
 ⟨some 11, none, .lnl (.tmp 10)⟩,
 ⟨some 12, none, .mov (.const (.int .i64 0))⟩])
 (.block 0 (.loop (.seq (.ops [⟨some 13, none, .bin .lss (.tmp 12) (.tmp 11)⟩])
 (.seq (.cond (.tmp 13)
 .skip
 (.exit 0))
 (.seq (.block 1 (.seq (.ops [⟨some 14, none, .iad 1 (.tmp 10) (.tmp 12)⟩,
 ⟨some 15, none, .ld1 (.tmp 14)⟩,
 ⟨some 9, none, .mov (.tmp 15)⟩])
 (.ops [⟨some 16, none, .mov (.tmp 7)⟩,
 ⟨some 17, none, .mov (.tmp 0)⟩,
 ⟨some 18, none, .mov (.tmp 9)⟩,
 ⟨some 19, none, .mov (.tmp 2)⟩,
 ⟨some 20, none, .call (.func 36) [(.tmp 17), (.tmp 18), (.tmp 19)]⟩,
 ⟨some 21, none, .lits [(.slice none 0 0)] 1 [(0, 1, (.tmp 20))]⟩,
 ⟨some 22, none, .app 1 24 none (.tmp 16) (.tmp 21)⟩,
 ⟨some 7, none, .mov (.tmp 22)⟩])))
 (.ops [⟨some 23, none, .bin .add (.tmp 12) (.const (.int .i64 1))⟩,
 ⟨some 12, none, .mov (.tmp 23)⟩])))))))
 (.seq (.ops [⟨some 24, none, .mov (.tmp 7)⟩,
 ⟨some 6, none, .mov (.tmp 24)⟩])
 .ret))))⟩
theorem ok116 : compF Tryz.prog Tryz.f116 = some c116 := by kernel_rfl
def c117 : CF := ⟨15, [.tmp 8],
 (.seq (.ops [⟨some 8, none, .mov (.const (.slice none 0 0))⟩])
 (.seq (.ops [⟨some 9, none, .mov (.tmp 0)⟩,
 ⟨some 10, none, .mov (.tmp 1)⟩,
 ⟨some 11, none, .agg [(.int .i64 0), (.int .i64 0), (.int .i64 0), (.string ⟨#[]⟩), (.int .i32 0), (.int .i32 0)] [(0, 1, (.const (.int .i64 10))), (4, 1, (.tmp 10))]⟩,
 ⟨some 12, none, .mov (.tmp 2)⟩,
 ⟨some 13, none, .mov (.tmp 3)⟩,
 ⟨some 14, none, .call (.func 109) [(.tmp 9), (.tmp 11), (.tmp 12), (.tmp 13)]⟩,
 ⟨some 8, none, .mov (.tmp 14)⟩])
 .ret))⟩
theorem ok117 : compF Tryz.prog Tryz.f117 = some c117 := by kernel_rfl
def c118 : CF := ⟨20, [.tmp 8],
 (.seq (.ops [⟨some 8, none, .mov (.const (.slice none 0 0))⟩])
 (.seq (.ops [⟨some 9, none, .mov (.tmp 0)⟩,
 ⟨some 10, none, .mov (.tmp 1)⟩,
 ⟨some 11, none, .mov (.tmp 2)⟩,
 ⟨some 12, none, .mov (.tmp 0)⟩,
 ⟨some 13, none, .mov (.tmp 1)⟩,
 ⟨some 14, none, .bin .add (.tmp 13) (.const (.int .i32 1))⟩,
 ⟨some 15, none, .mov (.tmp 2)⟩,
 ⟨some 16, none, .mov (.tmp 3)⟩,
 ⟨some 17, none, .call (.func 113) [(.tmp 12), (.tmp 14), (.const (.int .i64 0)), (.tmp 15), (.tmp 16)]⟩,
 ⟨some 18, none, .lits [(.slice none 0 0)] 1 [(0, 1, (.tmp 17))]⟩,
 ⟨some 19, none, .call (.func 115) [(.tmp 9), (.tmp 10), (.tmp 11), (.tmp 18)]⟩,
 ⟨some 8, none, .mov (.tmp 19)⟩])
 .ret))⟩
theorem ok118 : compF Tryz.prog Tryz.f118 = some c118 := by kernel_rfl
def c119 : CF := ⟨44, [.tmp 8],
 (.seq (.ops [⟨some 8, none, .mov (.const (.slice none 0 0))⟩])
 (.seq (.draw [⟨some 10, none, .ld1 (.tmp 2)⟩,
 ⟨some 11, none, .mov (.tmp 0)⟩,
 ⟨some 12, none, .iad 1 (.tmp 11) (.const (.int .i64 0))⟩,
 ⟨some 13, none, .ld1 (.tmp 12)⟩,
 ⟨some 14, none, .mov (.tmp 1)⟩,
 ⟨some 15, none, .call (.func 36) [(.tmp 10), (.tmp 13), (.tmp 14)]⟩,
 ⟨some 9, none, .mov (.tmp 15)⟩] [(0, 1), (0, 2), (0, 3), (0, 4), (1, 4), (2, 4), (3, 4)])
 (.seq (.seq (.ops [⟨some 16, none, .mov (.tmp 0)⟩,
 ⟨some 17, none, .lnl (.tmp 16)⟩,
 ⟨some 18, none, .bin .eql (.tmp 17) (.const (.int .i64 1))⟩])
 (.cond (.tmp 18)
 (.seq (.ops [⟨some 19, none, .ld1 (.tmp 2)⟩,
 ⟨some 20, none, .ld1 (.tmp 3)⟩,
 ⟨some 21, none, .mov (.tmp 9)⟩,
 ⟨some 22, none, .call (.func 118) [(.tmp 19), (.const (.int .i32 14)), (.tmp 20), (.tmp 21)]⟩,
 ⟨some 8, none, .mov (.tmp 22)⟩])
 .ret)
 .skip))
 (.seq (.draw [⟨some 23, none, .ld1 (.tmp 2)⟩,
 ⟨some 24, none, .ld1 (.tmp 3)⟩,
 ⟨some 25, none, .ld1 (.tmp 2)⟩,
 ⟨some 26, none, .ld1 (.tmp 3)⟩,
 ⟨some 27, none, .ld1 (.tmp 2)⟩,
 ⟨some 28, none, .ld1 (.tmp 3)⟩,
 ⟨some 29, none, .ld1 (.tmp 4)⟩,
 ⟨some 30, none, .ld1 (.tmp 4)⟩,
 ⟨some 31, none, .ld1 (.tmp 5)⟩,
 ⟨some 32, none, .mov (.tmp 0)⟩,
 ⟨some 33, none, .sl 1 (.tmp 32) (some (.const (.int .i64 1))) none none⟩,
 ⟨some 34, none, .mov (.tmp 1)⟩,
 ⟨some 35, none, .lits [(.int .i64 0)] 1 [(0, 1, (.const (.int .i64 (-1))))]⟩,
 ⟨some 36, none, .call (.func 114) [(.tmp 34), (.tmp 35)]⟩,
 ⟨some 37, none, .call (.tmp 31) [(.tmp 33), (.tmp 36)]⟩,
 ⟨some 38, none, .lits [(.slice none 0 0), (.slice none 0 0), (.slice none 0 0)] 3 [(0, 1, (.tmp 29)), (1, 1, (.tmp 30)), (2, 1, (.tmp 37))]⟩,
 ⟨some 39, none, .call (.func 117) [(.tmp 27), (.const (.int .i32 18)), (.tmp 28), (.tmp 38)]⟩,
 ⟨some 40, none, .call (.func 113) [(.tmp 25), (.const (.int .i32 17)), (.const (.int .i64 1)), (.tmp 26), (.tmp 39)]⟩,
 ⟨some 41, none, .mov (.tmp 9)⟩,
 ⟨some 42, none, .lits [(.slice none 0 0), (.slice none 0 0)] 2 [(0, 1, (.tmp 40)), (1, 1, (.tmp 41))]⟩,
 ⟨some 43, none, .call (.func 115) [(.tmp 23), (.const (.int .i32 16)), (.tmp 24), (.tmp 42)]⟩,
 ⟨some 8, none, .mov (.tmp 43)⟩] [(0, 1), (0, 2), (1, 2), (0, 3), (1, 3), (2, 3), (0, 4), (1, 4), (2, 4), (3, 4), (0, 5), (1, 5), (2, 5), (3, 5), (4, 5), (0, 6), (1, 6), (2, 6), (3, 6), (4, 6), (5, 6), (0, 7), (1, 7), (2, 7), (3, 7), (4, 7), (5, 7), (6, 7), (0, 8), (1, 8), (2, 8), (3, 8), (4, 8), (5, 8), (6, 8), (7, 8), (0, 9), (1, 9), (2, 9), (3, 9), (4, 9), (5, 9), (6, 9), (7, 9), (8, 9), (0, 10), (1, 10), (2, 10), (3, 10), (4, 10), (5, 10), (6, 10), (7, 10), (8, 10), (0, 11), (1, 11), (2, 11), (3, 11), (4, 11), (5, 11), (6, 11), (7, 11), (8, 11), (9, 11), (10, 11), (0, 12), (1, 12), (2, 12), (3, 12), (4, 12), (5, 12), (6, 12), (7, 12), (8, 12), (9, 12), (10, 12), (11, 12), (0, 13), (1, 13), (2, 13), (3, 13), (4, 13), (5, 13), (6, 13), (7, 13), (8, 13), (9, 13), (10, 13), (0, 14), (1, 14), (2, 14), (3, 14), (4, 14), (5, 14), (6, 14), (7, 14), (0, 15), (1, 15), (2, 15), (3, 15), (4, 15), (5, 15), (0, 16), (1, 16), (2, 16), (3, 16), (0, 17), (1, 17), (0, 18), (1, 18), (2, 18), (3, 18), (4, 18), (5, 18), (6, 18), (7, 18), (8, 18), (9, 18), (10, 18), (11, 18), (12, 18), (13, 18), (14, 18), (15, 18), (16, 18), (17, 18), (0, 19), (1, 19)])
 .ret))))⟩
theorem ok119 : compF Tryz.prog Tryz.f119 = some c119 := by kernel_rfl
def c120 : CF := ⟨37, [.tmp 7],
 (.seq (.ops [⟨some 7, none, .mov (.const (.slice none 0 0))⟩])
 (.seq (.draw [⟨some 9, none, .ld1 (.tmp 2)⟩,
 ⟨some 10, none, .mov (.tmp 0)⟩,
 ⟨some 11, none, .iad 1 (.tmp 10) (.const (.int .i64 0))⟩,
 ⟨some 12, none, .ld1 (.tmp 11)⟩,
 ⟨some 13, none, .mov (.tmp 1)⟩,
 ⟨some 14, none, .call (.func 36) [(.tmp 9), (.tmp 12), (.tmp 13)]⟩,
 ⟨some 8, none, .mov (.tmp 14)⟩] [(0, 1), (0, 2), (0, 3), (0, 4), (1, 4), (2, 4), (3, 4)])
 (.seq (.seq (.ops [⟨some 15, none, .mov (.tmp 0)⟩,
 ⟨some 16, none, .lnl (.tmp 15)⟩,
 ⟨some 17, none, .bin .eql (.tmp 16) (.const (.int .i64 1))⟩])
 (.cond (.tmp 17)
 (.seq (.ops [⟨some 18, none, .ld1 (.tmp 2)⟩,
 ⟨some 19, none, .ld1 (.tmp 3)⟩,
 ⟨some 20, none, .mov (.tmp 8)⟩,
 ⟨some 21, none, .call (.func 118) [(.tmp 18), (.const (.int .i32 21)), (.tmp 19), (.tmp 20)]⟩,
 ⟨some 7, none, .mov (.tmp 21)⟩])
 .ret)
 .skip))
 (.seq (.draw [⟨some 22, none, .ld1 (.tmp 2)⟩,
 ⟨some 23, none, .ld1 (.tmp 3)⟩,
 ⟨some 24, none, .ld1 (.tmp 2)⟩,
 ⟨some 25, none, .ld1 (.tmp 3)⟩,
 ⟨some 26, none, .ld1 (.tmp 4)⟩,
 ⟨some 27, none, .mov (.tmp 0)⟩,
 ⟨some 28, none, .sl 1 (.tmp 27) (some (.const (.int .i64 1))) none none⟩,
 ⟨some 29, none, .mov (.tmp 1)⟩,
 ⟨some 30, none, .lits [(.int .i64 0)] 1 [(0, 1, (.const (.int .i64 (-1))))]⟩,
 ⟨some 31, none, .call (.func 114) [(.tmp 29), (.tmp 30)]⟩,
 ⟨some 32, none, .call (.tmp 26) [(.tmp 28), (.tmp 31)]⟩,
 ⟨some 33, none, .call (.func 113) [(.tmp 24), (.const (.int .i32 24)), (.const (.int .i64 1)), (.tmp 25), (.tmp 32)]⟩,
 ⟨some 34, none, .mov (.tmp 8)⟩,
 ⟨some 35, none, .lits [(.slice none 0 0), (.slice none 0 0)] 2 [(0, 1, (.tmp 33)), (1, 1, (.tmp 34))]⟩,
 ⟨some 36, none, .call (.func 115) [(.tmp 22), (.const (.int .i32 23)), (.tmp 23), (.tmp 35)]⟩,
 ⟨some 7, none, .mov (.tmp 36)⟩] [(0, 1), (0, 2), (1, 2), (0, 3), (1, 3), (2, 3), (0, 4), (1, 4), (2, 4), (3, 4), (0, 5), (1, 5), (2, 5), (3, 5), (4, 5), (0, 6), (1, 6), (2, 6), (3, 6), (4, 6), (0, 7), (1, 7), (2, 7), (3, 7), (4, 7), (5, 7), (6, 7), (0, 8), (1, 8), (2, 8), (3, 8), (4, 8), (5, 8), (6, 8), (7, 8), (0, 9), (1, 9), (2, 9), (3, 9), (4, 9), (5, 9), (6, 9), (0, 10), (1, 10), (2, 10), (3, 10), (0, 11), (1, 11), (0, 12), (1, 12), (2, 12), (3, 12), (4, 12), (5, 12), (6, 12), (7, 12), (8, 12), (9, 12), (10, 12), (11, 12), (0, 13), (1, 13)])
 .ret))))⟩
theorem ok120 : compF Tryz.prog Tryz.f120 = some c120 := by kernel_rfl
def c121 : CF := ⟨19, [.tmp 4, .tmp 5],
 (.seq (.ops [⟨some 2, none, .box (.tmp 0)⟩,
 ⟨some 4, none, .mov (.const (.int .i64 0))⟩,
 ⟨some 5, none, .mov (.const (.int .i64 0))⟩])
 (.seq (.seq (.ops [⟨some 6, none, .fad (.tmp 2) 0⟩,
 ⟨some 7, none, .ld1 (.tmp 6)⟩])
 (.block 0 (.seq (.block 2 (.seq (.block 1 (.seq (.seq (.seq (.ops [⟨some 9, none, .bin .eql (.tmp 7) (.const (.int .i64 11))⟩,
 ⟨some 8, none, .mov (.tmp 9)⟩])
 (.cond (.tmp 8)
 (.exit 1)
 .skip))
 (.seq (.ops [⟨some 11, none, .bin .eql (.tmp 7) (.const (.int .i64 8))⟩,
 ⟨some 10, none, .mov (.tmp 11)⟩])
 (.cond (.tmp 10)
 (.exit 2)
 .skip)))
 (.exit 0)))
 (.ops [⟨some 12, none, .fad (.tmp 2) 2⟩,
 ⟨some 13, none, .ld1 (.tmp 12)⟩,
 ⟨some 5, none, .mov (.tmp 13)⟩])))
 (.seq (.seq (.ops [⟨some 14, none, .mov (.tmp 1)⟩])
 (.cond (.tmp 14)
 (.ops [⟨some 15, none, .fad (.tmp 2) 2⟩,
 ⟨some 16, none, .ld1 (.tmp 15)⟩,
 ⟨some 4, none, .mov (.tmp 16)⟩])
 .skip))
 (.exit 0)))))
 (.seq (.ops [⟨some 17, none, .mov (.tmp 4)⟩,
 ⟨some 18, none, .mov (.tmp 5)⟩,
 ⟨some 4, none, .mov (.tmp 17)⟩,
 ⟨some 5, none, .mov (.tmp 18)⟩])
 .ret)))⟩
theorem ok121 : compF Tryz.prog Tryz.f121 = some c121 := by kernel_rfl
def c122 : CF := ⟨57, [.tmp 2],
 (.seq (.ops [⟨some 2, none, .mov (.const (.bool false))⟩])
 (.seq (.seq (.ops [⟨some 10, none, .mov (.tmp 0)⟩,
 ⟨some 11, none, .bin .eql (.tmp 10) (.const (.string ⟨#[]⟩))⟩,
 ⟨some 12, none, .mov (.tmp 11)⟩,
 ⟨some 13, (some (12, false)), .mov (.tmp 0)⟩,
 ⟨some 14, (some (12, false)), .lns (.tmp 13)⟩,
 ⟨some 15, (some (12, false)), .bin .gtr (.tmp 14) (.const (.int .i64 24))⟩,
 ⟨some 16, none, .pick (.tmp 12) (.const (.bool true)) (.tmp 15)⟩])
 (.cond (.tmp 16)
 (.seq (.ops [⟨some 2, none, .mov (.const (.bool false))⟩])
 .ret)
 .skip))
 (.seq (.ops [⟨some 17, none, .mov (.tmp 0)⟩,
 ⟨some 18, none, .call (.func 162) [(.tmp 17), (.const (.string ⟨#[43]⟩))]⟩,
 ⟨some 19, none, .call (.func 162) [(.tmp 18), (.const (.string ⟨#[45]⟩))]⟩,
 ⟨some 20, none, .call (.func 161) [(.tmp 19), (.const (.string ⟨#[48, 49, 50, 51, 52, 53, 54, 55, 56, 57]⟩))]⟩,
 ⟨some 3, none, .mov (.tmp 20)⟩])
 (.seq (.seq (.ops [⟨some 21, none, .mov (.tmp 3)⟩,
 ⟨some 22, none, .bin .eql (.tmp 21) (.const (.string ⟨#[]⟩))⟩,
 ⟨some 23, none, .mov (.tmp 22)⟩,
 ⟨some 24, (some (23, true)), .mov (.tmp 0)⟩,
 ⟨some 25, (some (23, true)), .call (.func 163) [(.tmp 24), (.const (.string ⟨#[48, 49, 50, 51, 52, 53, 54, 55, 56, 57]⟩))]⟩,
 ⟨some 26, none, .pick (.tmp 23) (.tmp 25) (.const (.bool false))⟩,
 ⟨some 27, none, .mov (.tmp 26)⟩,
 ⟨some 28, (some (27, true)), .mov (.tmp 0)⟩,
 ⟨some 29, (some (27, true)), .call (.func 164) [(.tmp 28), (.const (.string ⟨#[43, 45]⟩))]⟩,
 ⟨some 30, (some (27, true)), .un .not (.tmp 29)⟩,
 ⟨some 31, none, .pick (.tmp 27) (.tmp 30) (.const (.bool false))⟩])
 (.cond (.tmp 31)
 (.seq (.ops [⟨some 2, none, .mov (.const (.bool false))⟩])
 .ret)
 .skip))
 (.seq (.ops [⟨some 33, none, .mov (.tmp 0)⟩,
 ⟨some 34, none, .cvb (.tmp 33)⟩,
 ⟨some 35, none, .call (.func 165) [(.tmp 34)]⟩,
 ⟨some 32, none, .mov (.tmp 35)⟩,
 ⟨some 36, none, .ext (.tmp 32) 0⟩,
 ⟨some 37, none, .ext (.tmp 32) 1⟩,
 ⟨some 4, none, .mov (.tmp 36)⟩,
 ⟨some 5, none, .mov (.tmp 37)⟩])
 (.seq (.seq (.ops [⟨some 38, none, .mov (.tmp 5)⟩,
 ⟨some 39, none, .bin .neq (.tmp 38) (.const (.int .i64 0))⟩])
 (.cond (.tmp 39)
 (.seq (.ops [⟨some 2, none, .mov (.const (.bool false))⟩])
 .ret)
 .skip))
 (.seq (.seq (.ops [⟨some 40, none, .mov (.tmp 4)⟩,
 ⟨some 41, none, .lnl (.tmp 40)⟩,
 ⟨some 42, none, .mov (.const (.int .i64 0))⟩])
 (.block 0 (.loop (.seq (.ops [⟨some 43, none, .bin .lss (.tmp 42) (.tmp 41)⟩])
 (.seq (.cond (.tmp 43)
 .skip
 (.exit 0))
 (.seq (.block 1 (.seq (.ops [⟨some 44, none, .iad 1 (.tmp 40) (.tmp 42)⟩,
 ⟨some 45, none, .ld1 (.tmp 44)⟩,
 ⟨some 7, none, .mov (.tmp 45)⟩])
 (.seq (.ops [⟨some 47, none, .mov (.tmp 7)⟩,
 ⟨some 48, none, .call (.func 166) [(.tmp 47)]⟩,
 ⟨some 46, none, .mov (.tmp 48)⟩,
 ⟨some 49, none, .ext (.tmp 46) 0⟩,
 ⟨some 50, none, .ext (.tmp 46) 1⟩,
 ⟨some 8, none, .mov (.tmp 49)⟩,
 ⟨some 9, none, .mov (.tmp 50)⟩])
 (.seq (.ops [⟨some 51, none, .mov (.tmp 8)⟩])
 (.block 2 (.seq (.seq (.ops [⟨some 53, none, .bin .eql (.tmp 51) (.const (.int .i64 9))⟩,
 ⟨some 52, none, .mov (.tmp 53)⟩])
 (.cond (.tmp 52)
 .skip
 (.seq (.ops [⟨some 54, none, .bin .eql (.tmp 51) (.const (.int .i64 7))⟩,
 ⟨some 52, none, .mov (.tmp 54)⟩])
 (.cond (.tmp 52)
 .skip
 (.ops [⟨some 55, none, .bin .eql (.tmp 51) (.const (.int .i64 8))⟩,
 ⟨some 52, none, .mov (.tmp 55)⟩])))))
 (.cond (.tmp 52)
 .skip
 (.seq (.ops [⟨some 2, none, .mov (.const (.bool false))⟩])
 .ret))))))))
 (.ops [⟨some 56, none, .bin .add (.tmp 42) (.const (.int .i64 1))⟩,
 ⟨some 42, none, .mov (.tmp 56)⟩])))))))
 (.seq (.ops [⟨some 2, none, .mov (.const (.bool true))⟩])
 .ret))))))))⟩
theorem ok122 : compF Tryz.prog Tryz.f122 = some c122 := by kernel_rfl
def c123 : CF := ⟨25, [.tmp 5],
 (.seq (.ops [⟨some 5, none, .mov (.const (.int .i64 0))⟩])
 (.seq (.ops [⟨some 7, none, .mov (.tmp 0)⟩,
 ⟨some 8, none, .bin .add (.tmp 7) (.const (.int .i64 1))⟩,
 ⟨some 6, none, .mov (.tmp 8)⟩])
 (.seq (.seq (.ops [⟨some 9, none, .ld1 (.tmp 1)⟩,
 ⟨some 10, none, .mov (.tmp 0)⟩,
 ⟨some 11, none, .iad 6 (.tmp 9) (.tmp 10)⟩,
 ⟨some 12, none, .fad (.tmp 11) 1⟩,
 ⟨some 13, none, .ld1 (.tmp 12)⟩,
 ⟨some 14, none, .mov (.const (.int .i64 0))⟩])
 (.block 0 (.loop (.seq (.ops [⟨some 15, none, .bin .lss (.tmp 14) (.tmp 13)⟩])
 (.seq (.cond (.tmp 15)
 .skip
 (.exit 0))
 (.seq (.block 1 (.ops [⟨some 16, none, .ld1 (.tmp 2)⟩,
 ⟨some 17, none, .mov (.tmp 6)⟩,
 ⟨some 18, none, .call (.tmp 16) [(.tmp 17)]⟩,
 ⟨some 6, none, .mov (.tmp 18)⟩]))
 (.ops [⟨some 19, none, .bin .add (.tmp 14) (.const (.int .i64 1))⟩,
 ⟨some 14, none, .mov (.tmp 19)⟩])))))))
 (.seq (.ops [⟨some 20, none, .ld1 (.tmp 3)⟩,
 ⟨some 21, none, .mov (.tmp 0)⟩,
 ⟨some 22, none, .mov (.tmp 6)⟩,
 ⟨some 23, none, .iad 1 (.tmp 20) (.tmp 21)⟩,
 ⟨none, none, .st 1 (.tmp 23) (.tmp 22)⟩])
 (.seq (.ops [⟨some 24, none, .mov (.tmp 6)⟩,
 ⟨some 5, none, .mov (.tmp 24)⟩])
 .ret)))))⟩
theorem ok123 : compF Tryz.prog Tryz.f123 = some c123 := by kernel_rfl
def c124 : CF := ⟨26, [.tmp 6],
 (.seq (.ops [⟨some 6, none, .mov (.const (.slice none 0 0))⟩])
 (.seq (.ops [⟨some 7, none, .mov (.const (.slice none 0 0))⟩])
 (.seq (.seq (.ops [⟨some 9, none, .mov (.tmp 2)⟩,
 ⟨some 10, none, .bin .add (.tmp 9) (.const (.int .i64 1))⟩,
 ⟨some 8, none, .mov (.tmp 10)⟩])
 (.block 0 (.loop (.seq (.seq (.ops [⟨some 11, none, .mov (.tmp 8)⟩,
 ⟨some 12, none, .mov (.tmp 1)⟩,
 ⟨some 13, none, .mov (.tmp 2)⟩,
 ⟨some 14, none, .iad 1 (.tmp 12) (.tmp 13)⟩,
 ⟨some 15, none, .ld1 (.tmp 14)⟩,
 ⟨some 16, none, .bin .lss (.tmp 11) (.tmp 15)⟩])
 (.cond (.tmp 16)
 .skip
 (.exit 0)))
 (.seq (.block 1 (.ops [⟨some 21, none, .mov (.tmp 7)⟩,
 ⟨some 22, none, .mov (.tmp 8)⟩,
 ⟨some 23, none, .lits [(.int .i64 0)] 1 [(0, 1, (.tmp 22))]⟩,
 ⟨some 24, none, .app 1 8 none (.tmp 21) (.tmp 23)⟩,
 ⟨some 7, none, .mov (.tmp 24)⟩]))
 (.ops [⟨some 17, none, .mov (.tmp 1)⟩,
 ⟨some 18, none, .mov (.tmp 8)⟩,
 ⟨some 19, none, .iad 1 (.tmp 17) (.tmp 18)⟩,
 ⟨some 20, none, .ld1 (.tmp 19)⟩,
 ⟨some 8, none, .mov (.tmp 20)⟩]))))))
 (.seq (.ops [⟨some 25, none, .mov (.tmp 7)⟩,
 ⟨some 6, none, .mov (.tmp 25)⟩])
 .ret))))⟩
theorem ok124 : compF Tryz.prog Tryz.f124 = some c124 := by kernel_rfl
def c125 : CF := ⟨13, [.tmp 2],
 (.seq (.ops [⟨some 2, none, .mov (.const (.bool false))⟩])
 (.seq (.ops [⟨some 3, none, .mov (.tmp 0)⟩,
 ⟨some 4, none, .bin .geq (.tmp 3) (.const (.int .i64 1))⟩,
 ⟨some 5, none, .mov (.tmp 4)⟩,
 ⟨some 6, (some (5, true)), .mov (.tmp 0)⟩,
 ⟨some 7, (some (5, true)), .bin .leq (.tmp 6) (.const (.int .i64 6))⟩,
 ⟨some 8, none, .pick (.tmp 5) (.tmp 7) (.const (.bool false))⟩,
 ⟨some 9, none, .mov (.tmp 8)⟩,
 ⟨some 10, (some (9, false)), .mov (.tmp 0)⟩,
 ⟨some 11, (some (9, false)), .bin .eql (.tmp 10) (.const (.int .i64 8))⟩,
 ⟨some 12, none, .pick (.tmp 9) (.const (.bool true)) (.tmp 11)⟩,
 ⟨some 2, none, .mov (.tmp 12)⟩])
 .ret))⟩
theorem ok125 : compF Tryz.prog Tryz.f125 = some c125 := by kernel_rfl
def c126 : CF := ⟨15, [],
 (.seq (.ops [⟨some 4, none, .box (.tmp 0)⟩,
 ⟨some 5, none, .box (.tmp 1)⟩,
 ⟨some 6, none, .box (.tmp 2)⟩,
 ⟨some 7, none, .box (.tmp 3)⟩])
 (.seq (.ops [⟨some 10, none, .ld1 (.tmp 4)⟩,
 ⟨some 11, none, .call (.func 81) [(.tmp 10)]⟩,
 ⟨some 8, none, .newz [(.slice none 0 0)]⟩,
 ⟨none, none, .st 1 (.tmp 8) (.tmp 11)⟩])
 (.seq (.ops [⟨some 9, none, .newz [.nilFunc]⟩])
 (.seq (.ops [⟨some 12, none, .fn 167 [] [(.tmp 4), (.tmp 8), (.tmp 5), (.tmp 6), (.tmp 7), (.tmp 9)]⟩,
 ⟨none, none, .st 1 (.tmp 9) (.tmp 12)⟩])
 (.ops [⟨some 13, none, .ld1 (.tmp 9)⟩,
 ⟨some 14, none, .call (.tmp 13) [(.const (.int .i64 0))]⟩])))))⟩
theorem ok126 : compF Tryz.prog Tryz.f126 = some c126 := by kernel_rfl
def c127 : CF := ⟨46, [],
 (.block 0 (.seq (.ops [⟨some 9, none, .ld1 (.tmp 2)⟩,
 ⟨some 10, none, .mov (.tmp 9)⟩,
 ⟨some 11, (some (10, true)), .mov (.tmp 1)⟩,
 ⟨some 12, (some (10, true)), .bin .lss (.tmp 11) (.const (.int .i64 0))⟩,
 ⟨some 13, none, .pick (.tmp 10) (.tmp 12) (.const (.bool false))⟩,
 ⟨some 8, none, .mov (.tmp 13)⟩])
 (.cond (.tmp 8)
 (.draw [⟨some 14, none, .ld1 (.tmp 3)⟩,
 ⟨some 15, none, .ld1 (.tmp 4)⟩,
 ⟨some 16, none, .mov (.tmp 0)⟩,
 ⟨some 17, none, .iad 6 (.tmp 15) (.tmp 16)⟩,
 ⟨some 18, none, .fad (.tmp 17) 2⟩,
 ⟨some 19, none, .ld1 (.tmp 18)⟩,
 ⟨some 20, none, .lits [(.int .i64 0)] 1 [(0, 1, (.tmp 19))]⟩,
 ⟨some 21, none, .app 1 8 none (.tmp 14) (.tmp 20)⟩,
 ⟨none, none, .st 1 (.tmp 3) (.tmp 21)⟩] [(0, 1), (0, 2), (1, 2), (0, 3), (0, 4), (0, 5), (0, 6)])
 (.seq (.ops [⟨some 23, none, .ld1 (.tmp 2)⟩,
 ⟨some 24, none, .un .not (.tmp 23)⟩,
 ⟨some 25, none, .mov (.tmp 24)⟩,
 ⟨some 26, (some (25, true)), .mov (.tmp 1)⟩,
 ⟨some 27, (some (25, true)), .ld1 (.tmp 5)⟩,
 ⟨some 28, (some (25, true)), .nilck (.tmp 27)⟩,
 ⟨some 29, (some (25, true)), .fad (.tmp 28) 0⟩,
 ⟨some 30, (some (25, true)), .ld1 (.tmp 29)⟩,
 ⟨some 31, (some (25, true)), .bin .geq (.tmp 26) (.tmp 30)⟩,
 ⟨some 32, none, .pick (.tmp 25) (.tmp 31) (.const (.bool false))⟩,
 ⟨some 22, none, .mov (.tmp 32)⟩])
 (.cond (.tmp 22)
 (.draw [⟨some 33, none, .ld1 (.tmp 3)⟩,
 ⟨some 34, none, .ld1 (.tmp 4)⟩,
 ⟨some 35, none, .mov (.tmp 0)⟩,
 ⟨some 36, none, .iad 6 (.tmp 34) (.tmp 35)⟩,
 ⟨some 37, none, .fad (.tmp 36) 2⟩,
 ⟨some 38, none, .ld1 (.tmp 37)⟩,
 ⟨some 39, none, .ld1 (.tmp 5)⟩,
 ⟨some 40, none, .nilck (.tmp 39)⟩,
 ⟨some 41, none, .fad (.tmp 40) 0⟩,
 ⟨some 42, none, .ld1 (.tmp 41)⟩,
 ⟨some 43, none, .bin .sub (.tmp 38) (.tmp 42)⟩,
 ⟨some 44, none, .lits [(.int .i64 0)] 1 [(0, 1, (.tmp 43))]⟩,
 ⟨some 45, none, .app 1 8 none (.tmp 33) (.tmp 44)⟩,
 ⟨none, none, .st 1 (.tmp 3) (.tmp 45)⟩] [(0, 1), (0, 2), (1, 2), (0, 3), (0, 4), (0, 5), (0, 6), (1, 6), (2, 6), (3, 6), (4, 6), (5, 6), (0, 7), (1, 7), (2, 7), (3, 7), (4, 7), (5, 7), (0, 8), (1, 8), (2, 8), (3, 8), (4, 8), (5, 8), (0, 9), (1, 9), (2, 9), (3, 9), (4, 9), (5, 9), (0, 10), (0, 11)])
 .skip)))))⟩
theorem ok127 : compF Tryz.prog Tryz.f127 = some c127 := by kernel_rfl
def c128 : CF := ⟨11, [],
 (.seq (.ops [⟨some 3, none, .mov (.tmp 0)⟩,
 ⟨some 4, none, .lnl (.tmp 3)⟩,
 ⟨some 2, none, .mov (.tmp 4)⟩])
 (.ops [⟨some 5, none, .mov (.tmp 0)⟩,
 ⟨some 6, none, .mov (.tmp 2)⟩,
 ⟨some 7, none, .mov (.tmp 2)⟩,
 ⟨some 8, none, .cvi .u64 (.tmp 7)⟩,
 ⟨some 9, none, .call (.func 173) [(.tmp 8)]⟩,
 ⟨some 10, none, .call (.func 172) [(.tmp 5), (.const (.int .i64 0)), (.tmp 6), (.tmp 9)]⟩]))⟩
theorem ok128 : compF Tryz.prog Tryz.f128 = some c128 := by kernel_rfl
def c129 : CF := ⟨61, [.tmp 2],
 (.seq (.ops [⟨some 2, none, .mov (.const (.slice none 0 0))⟩])
 (.seq (.seq (.ops [⟨some 6, none, .mov (.tmp 0)⟩,
 ⟨some 7, none, .lnl (.tmp 6)⟩,
 ⟨some 8, none, .bin .lss (.tmp 7) (.const (.int .i64 2))⟩])
 (.cond (.tmp 8)
 (.seq (.ops [⟨some 9, none, .mov (.tmp 0)⟩,
 ⟨some 2, none, .mov (.tmp 9)⟩])
 .ret)
 .skip))
 (.seq (.seq (.ops [⟨some 3, none, .mov (.const (.int .i64 1))⟩])
 (.block 0 (.loop (.seq (.seq (.ops [⟨some 10, none, .mov (.tmp 3)⟩,
 ⟨some 11, none, .mov (.tmp 0)⟩,
 ⟨some 12, none, .lnl (.tmp 11)⟩,
 ⟨some 13, none, .bin .lss (.tmp 10) (.tmp 12)⟩])
 (.cond (.tmp 13)
 .skip
 (.exit 0)))
 (.seq (.block 1 (.seq (.draw [⟨some 16, none, .mov (.tmp 0)⟩,
 ⟨some 17, none, .mov (.tmp 3)⟩,
 ⟨some 18, none, .iad 1 (.tmp 16) (.tmp 17)⟩,
 ⟨some 19, none, .ld1 (.tmp 18)⟩,
 ⟨some 20, none, .mov (.tmp 0)⟩,
 ⟨some 21, none, .mov (.tmp 3)⟩,
 ⟨some 22, none, .bin .sub (.tmp 21) (.const (.int .i64 1))⟩,
 ⟨some 23, none, .iad 1 (.tmp 20) (.tmp 22)⟩,
 ⟨some 24, none, .ld1 (.tmp 23)⟩,
 ⟨some 25, none, .bin .eql (.tmp 19) (.tmp 24)⟩] [(0, 1), (0, 4), (1, 4), (2, 4), (3, 4), (0, 5), (1, 5), (2, 5), (3, 5), (4, 5), (0, 6), (1, 6), (2, 6), (3, 6), (4, 6), (0, 7), (1, 7), (2, 7), (3, 7), (0, 8), (1, 8), (2, 8), (3, 8)])
 (.cond (.tmp 25)
 (.seq (.ops [⟨some 26, none, .mov (.tmp 0)⟩,
 ⟨some 27, none, .mov (.tmp 3)⟩,
 ⟨some 28, none, .sl 1 (.tmp 26) (some (.tmp 27)) none none⟩,
 ⟨some 4, none, .mov (.tmp 28)⟩])
 (.seq (.seq (.ops [⟨some 5, none, .mov (.const (.int .i64 1))⟩])
 (.block 2 (.loop (.seq (.seq (.ops [⟨some 29, none, .mov (.tmp 5)⟩,
 ⟨some 30, none, .mov (.tmp 4)⟩,
 ⟨some 31, none, .lnl (.tmp 30)⟩,
 ⟨some 32, none, .bin .lss (.tmp 29) (.tmp 31)⟩])
 (.cond (.tmp 32)
 .skip
 (.exit 2)))
 (.seq (.block 3 (.seq (.draw [⟨some 35, none, .mov (.tmp 4)⟩,
 ⟨some 36, none, .mov (.tmp 5)⟩,
 ⟨some 37, none, .iad 1 (.tmp 35) (.tmp 36)⟩,
 ⟨some 38, none, .ld1 (.tmp 37)⟩,
 ⟨some 39, none, .mov (.tmp 4)⟩,
 ⟨some 40, none, .mov (.tmp 5)⟩,
 ⟨some 41, none, .bin .sub (.tmp 40) (.const (.int .i64 1))⟩,
 ⟨some 42, none, .iad 1 (.tmp 39) (.tmp 41)⟩,
 ⟨some 43, none, .ld1 (.tmp 42)⟩,
 ⟨some 44, none, .bin .neq (.tmp 38) (.tmp 43)⟩] [(0, 1), (0, 4), (1, 4), (2, 4), (3, 4), (0, 5), (1, 5), (2, 5), (3, 5), (4, 5), (0, 6), (1, 6), (2, 6), (3, 6), (4, 6), (0, 7), (1, 7), (2, 7), (3, 7), (0, 8), (1, 8), (2, 8), (3, 8)])
 (.cond (.tmp 44)
 (.seq (.ops [⟨some 45, none, .mov (.tmp 0)⟩,
 ⟨some 46, none, .mov (.tmp 3)⟩,
 ⟨some 47, none, .mov (.tmp 4)⟩,
 ⟨some 48, none, .mov (.tmp 5)⟩,
 ⟨some 49, none, .iad 1 (.tmp 47) (.tmp 48)⟩,
 ⟨some 50, none, .ld1 (.tmp 49)⟩,
 ⟨some 51, none, .iad 1 (.tmp 45) (.tmp 46)⟩,
 ⟨none, none, .st 1 (.tmp 51) (.tmp 50)⟩])
 (.ops [⟨some 52, none, .mov (.tmp 3)⟩,
 ⟨some 53, none, .bin .add (.tmp 52) (.const (.int .i64 1))⟩,
 ⟨some 3, none, .mov (.tmp 53)⟩]))
 .skip)))
 (.ops [⟨some 33, none, .mov (.tmp 5)⟩,
 ⟨some 34, none, .bin .add (.tmp 33) (.const (.int .i64 1))⟩,
 ⟨some 5, none, .mov (.tmp 34)⟩]))))))
 (.seq (.ops [⟨some 54, none, .mov (.tmp 0)⟩,
 ⟨some 55, none, .mov (.tmp 3)⟩,
 ⟨some 56, none, .sl 1 (.tmp 54) (some (.tmp 55)) none none⟩,
 ⟨none, none, .bad⟩])
 (.seq (.ops [⟨some 57, none, .mov (.tmp 0)⟩,
 ⟨some 58, none, .mov (.tmp 3)⟩,
 ⟨some 59, none, .sl 1 (.tmp 57) none (some (.tmp 58)) none⟩,
 ⟨some 2, none, .mov (.tmp 59)⟩])
 .ret))))
 .skip)))
 (.ops [⟨some 14, none, .mov (.tmp 3)⟩,
 ⟨some 15, none, .bin .add (.tmp 14) (.const (.int .i64 1))⟩,
 ⟨some 3, none, .mov (.tmp 15)⟩]))))))
 (.seq (.ops [⟨some 60, none, .mov (.tmp 0)⟩,
 ⟨some 2, none, .mov (.tmp 60)⟩])
 .ret))))⟩
theorem ok129 : compF Tryz.prog Tryz.f129 = some c129 := by kernel_rfl
def c130 : CF := ⟨2, [.cells 0 34],
 (.seq (.ops [⟨some 0, none, .newz [.nilFunc, .nilFunc, .nilFunc, .nilFunc, .nilFunc, .nilFunc, .nilFunc, .nilFunc, .nilFunc, .nilFunc, .nilFunc, .nilFunc, .nilFunc, .nilFunc, .nilFunc, .nilFunc, .nilFunc, .nilFunc, .nilFunc, .nilFunc, .nilFunc, .nilFunc, .nilFunc, .nilFunc, .nilFunc, .nilFunc, .nilFunc, .nilFunc, .nilFunc, .nilFunc, .nilFunc, .nilFunc, .nilFunc, .nilFunc]⟩])
 (.seq (.ops [⟨some 1, none, .agg [.nilFunc, .nilFunc, .nilFunc, .nilFunc, .nilFunc, .nilFunc, .nilFunc, .nilFunc, .nilFunc, .nilFunc, .nilFunc, .nilFunc, .nilFunc, .nilFunc, .nilFunc, .nilFunc, .nilFunc, .nilFunc, .nilFunc, .nilFunc, .nilFunc, .nilFunc, .nilFunc, .nilFunc, .nilFunc, .nilFunc, .nilFunc, .nilFunc, .nilFunc, .nilFunc, .nilFunc, .nilFunc, .nilFunc, .nilFunc] [(1, 1, (.func 174)), (3, 1, (.func 175)), (5, 1, (.func 175)), (7, 1, (.func 176)), (26, 1, (.func 177)), (8, 1, (.func 178)), (9, 1, (.func 178)), (19, 1, (.func 179)), (20, 1, (.func 179)), (11, 1, (.func 180)), (13, 1, (.func 180)), (28, 1, (.func 180)), (14, 1, (.func 180)), (16, 1, (.func 180)), (30, 1, (.func 180)), (21, 1, (.func 180)), (23, 1, (.func 180)), (25, 1, (.func 180)), (32, 1, (.func 180)), (33, 1, (.const .nilFunc))]⟩,
 ⟨none, none, .st 34 (.tmp 0) (.tmp 1)⟩])
 .ret))⟩
theorem ok130 : compF Tryz.prog Tryz.f130 = some c130 := by kernel_rfl
def c131 : CF := ⟨6, [],
 (.seq (.ops [⟨some 2, none, .mov (.tmp 0)⟩,
 ⟨some 3, none, .un .not (.tmp 2)⟩])
 (.cond (.tmp 3)
 (.ops [⟨some 4, none, .agg [] []⟩,
 ⟨some 5, none, .ifc 165 (.tmp 4)⟩,
 ⟨none, none, .bad⟩])
 .skip))⟩
theorem ok131 : compF Tryz.prog Tryz.f131 = some c131 := by kernel_rfl
def c132 : CF := ⟨30, [.tmp 4],
 (.seq (.ops [⟨some 4, none, .mov (.const (.slice none 0 0))⟩])
 (.seq (.ops [⟨some 5, none, .mov (.const (.slice none 0 0))⟩])
 (.seq (.seq (.ops [⟨some 7, none, .mov (.tmp 1)⟩,
 ⟨some 8, none, .bin .add (.tmp 7) (.const (.int .i64 1))⟩,
 ⟨some 6, none, .mov (.tmp 8)⟩])
 (.block 0 (.loop (.seq (.seq (.ops [⟨some 9, none, .mov (.tmp 6)⟩,
 ⟨some 10, none, .mov (.tmp 0)⟩,
 ⟨some 11, none, .nilck (.tmp 10)⟩,
 ⟨some 12, none, .fad (.tmp 11) 1⟩,
 ⟨some 13, none, .ld1 (.tmp 12)⟩,
 ⟨some 14, none, .mov (.tmp 1)⟩,
 ⟨some 15, none, .iad 1 (.tmp 13) (.tmp 14)⟩,
 ⟨some 16, none, .ld1 (.tmp 15)⟩,
 ⟨some 17, none, .bin .lss (.tmp 9) (.tmp 16)⟩])
 (.cond (.tmp 17)
 .skip
 (.exit 0)))
 (.seq (.block 1 (.ops [⟨some 25, none, .mov (.tmp 5)⟩,
 ⟨some 26, none, .mov (.tmp 6)⟩,
 ⟨some 27, none, .lits [(.int .i64 0)] 1 [(0, 1, (.tmp 26))]⟩,
 ⟨some 28, none, .app 1 8 none (.tmp 25) (.tmp 27)⟩,
 ⟨some 5, none, .mov (.tmp 28)⟩]))
 (.ops [⟨some 18, none, .mov (.tmp 0)⟩,
 ⟨some 19, none, .nilck (.tmp 18)⟩,
 ⟨some 20, none, .fad (.tmp 19) 1⟩,
 ⟨some 21, none, .ld1 (.tmp 20)⟩,
 ⟨some 22, none, .mov (.tmp 6)⟩,
 ⟨some 23, none, .iad 1 (.tmp 21) (.tmp 22)⟩,
 ⟨some 24, none, .ld1 (.tmp 23)⟩,
 ⟨some 6, none, .mov (.tmp 24)⟩]))))))
 (.seq (.ops [⟨some 29, none, .mov (.tmp 5)⟩,
 ⟨some 4, none, .mov (.tmp 29)⟩])
 .ret))))⟩
theorem ok132 : compF Tryz.prog Tryz.f132 = some c132 := by kernel_rfl
def c133 : CF := ⟨76, [],
 (.seq (.ops [⟨some 6, none, .mov (.tmp 0)⟩,
 ⟨some 7, none, .nilck (.tmp 6)⟩,
 ⟨some 8, none, .fad (.tmp 7) 0⟩,
 ⟨some 9, none, .ld1 (.tmp 8)⟩,
 ⟨some 10, none, .mov (.tmp 1)⟩,
 ⟨some 11, none, .iad 6 (.tmp 9) (.tmp 10)⟩,
 ⟨some 12, none, .ld 6 (.tmp 11)⟩,
 ⟨some 4, none, .newz [(.int .i64 0), (.int .i64 0), (.int .i64 0), (.string ⟨#[]⟩), (.int .i32 0), (.int .i32 0)]⟩,
 ⟨none, none, .st 6 (.tmp 4) (.tmp 12)⟩])
 (.seq (.ops [⟨some 13, none, .fad (.tmp 4) 0⟩,
 ⟨some 14, none, .ld1 (.tmp 13)⟩])
 (.block 0 (.seq (.ops [⟨some 53, none, .bin .eql (.tmp 14) (.const (.int .i64 1))⟩,
 ⟨some 52, none, .mov (.tmp 53)⟩])
 (.cond (.tmp 52)
 (.ops [⟨some 54, none, .mov (.tmp 0)⟩,
 ⟨some 55, none, .fad (.tmp 4) 2⟩,
 ⟨some 56, none, .ld1 (.tmp 55)⟩,
 ⟨some 57, none, .agg [(.int .i64 0), (.int .i64 0), (.int .i64 0), (.string ⟨#[]⟩), (.int .i64 0), (.int .i64 0), (.int .i64 0)] [(0, 1, (.const (.int .i64 1))), (2, 1, (.tmp 56))]⟩,
 ⟨some 58, none, .mov (.tmp 1)⟩,
 ⟨some 59, none, .call (.func 135) [(.tmp 54), (.tmp 57), (.tmp 58)]⟩])
 (.seq (.ops [⟨some 61, none, .bin .eql (.tmp 14) (.const (.int .i64 2))⟩,
 ⟨some 60, none, .mov (.tmp 61)⟩])
 (.cond (.tmp 60)
 (.ops [⟨some 62, none, .mov (.tmp 0)⟩,
 ⟨some 63, none, .fad (.tmp 4) 2⟩,
 ⟨some 64, none, .ld1 (.tmp 63)⟩,
 ⟨some 65, none, .agg [(.int .i64 0), (.int .i64 0), (.int .i64 0), (.string ⟨#[]⟩), (.int .i64 0), (.int .i64 0), (.int .i64 0)] [(0, 1, (.const (.int .i64 2))), (2, 1, (.tmp 64))]⟩,
 ⟨some 66, none, .mov (.tmp 1)⟩,
 ⟨some 67, none, .call (.func 135) [(.tmp 62), (.tmp 65), (.tmp 66)]⟩])
 (.seq (.ops [⟨some 69, none, .bin .eql (.tmp 14) (.const (.int .i64 3))⟩,
 ⟨some 68, none, .mov (.tmp 69)⟩])
 (.cond (.tmp 68)
 (.ops [⟨some 70, none, .mov (.tmp 0)⟩,
 ⟨some 71, none, .fad (.tmp 4) 3⟩,
 ⟨some 72, none, .ld1 (.tmp 71)⟩,
 ⟨some 73, none, .agg [(.int .i64 0), (.int .i64 0), (.int .i64 0), (.string ⟨#[]⟩), (.int .i64 0), (.int .i64 0), (.int .i64 0)] [(0, 1, (.const (.int .i64 4))), (3, 1, (.tmp 72))]⟩,
 ⟨some 74, none, .mov (.tmp 1)⟩,
 ⟨some 75, none, .call (.func 135) [(.tmp 70), (.tmp 73), (.tmp 74)]⟩])
 (.seq (.ops [⟨some 15, none, .mov (.tmp 0)⟩,
 ⟨some 16, none, .agg [(.int .i64 0), (.int .i64 0), (.int .i64 0), (.string ⟨#[]⟩), (.int .i64 0), (.int .i64 0), (.int .i64 0)] [(0, 1, (.const (.int .i64 5)))]⟩,
 ⟨some 17, none, .mov (.tmp 1)⟩,
 ⟨some 18, none, .call (.func 135) [(.tmp 15), (.tmp 16), (.tmp 17)]⟩,
 ⟨some 5, none, .mov (.tmp 18)⟩])
 (.block 1 (.loop (.seq (.seq (.ops [⟨some 19, none, .mov (.tmp 0)⟩,
 ⟨some 20, none, .nilck (.tmp 19)⟩,
 ⟨some 21, none, .fad (.tmp 20) 0⟩,
 ⟨some 22, none, .ld1 (.tmp 21)⟩,
 ⟨some 23, none, .mov (.tmp 1)⟩,
 ⟨some 24, none, .iad 6 (.tmp 22) (.tmp 23)⟩,
 ⟨some 25, none, .fad (.tmp 24) 0⟩,
 ⟨some 26, none, .ld1 (.tmp 25)⟩,
 ⟨some 27, none, .bin .eql (.tmp 26) (.const (.int .i64 5))⟩])
 (.cond (.tmp 27)
 .skip
 (.exit 1)))
 (.seq (.block 2 (.seq (.ops [⟨some 36, none, .mov (.tmp 0)⟩,
 ⟨some 37, none, .mov (.tmp 1)⟩,
 ⟨some 38, none, .bin .add (.tmp 37) (.const (.int .i64 1))⟩,
 ⟨some 39, none, .call (.func 133) [(.tmp 36), (.tmp 38)]⟩])
 (.ops [⟨some 40, none, .mov (.tmp 0)⟩,
 ⟨some 41, none, .nilck (.tmp 40)⟩,
 ⟨some 42, none, .fad (.tmp 41) 3⟩,
 ⟨some 43, none, .fad (.tmp 42) 0⟩,
 ⟨some 44, none, .ld1 (.tmp 43)⟩,
 ⟨some 45, none, .mov (.tmp 5)⟩,
 ⟨some 46, none, .iad 7 (.tmp 44) (.tmp 45)⟩,
 ⟨some 47, none, .fad (.tmp 46) 1⟩,
 ⟨some 48, none, .ld1 (.tmp 47)⟩,
 ⟨some 49, none, .bin .add (.tmp 48) (.const (.int .i64 1))⟩,
 ⟨some 50, none, .iad 7 (.tmp 44) (.tmp 45)⟩,
 ⟨some 51, none, .fad (.tmp 50) 1⟩,
 ⟨none, none, .st 1 (.tmp 51) (.tmp 49)⟩])))
 (.ops [⟨some 28, none, .mov (.tmp 0)⟩,
 ⟨some 29, none, .nilck (.tmp 28)⟩,
 ⟨some 30, none, .fad (.tmp 29) 1⟩,
 ⟨some 31, none, .ld1 (.tmp 30)⟩,
 ⟨some 32, none, .mov (.tmp 1)⟩,
 ⟨some 33, none, .bin .add (.tmp 32) (.const (.int .i64 1))⟩,
 ⟨some 34, none, .iad 1 (.tmp 31) (.tmp 33)⟩,
 ⟨some 35, none, .ld1 (.tmp 34)⟩,
 ⟨some 1, none, .mov (.tmp 35)⟩])))))))))))))))⟩
theorem ok133 : compF Tryz.prog Tryz.f133 = some c133 := by kernel_rfl
def c134 : CF := ⟨39, [],
 (.seq (.seq (.ops [⟨some 8, none, .mov (.tmp 0)⟩,
 ⟨some 9, none, .nilck (.tmp 8)⟩,
 ⟨some 10, none, .fad (.tmp 9) 2⟩,
 ⟨some 11, none, .ld1 (.tmp 10)⟩,
 ⟨some 12, none, .mov (.tmp 1)⟩,
 ⟨some 13, none, .iad 1 (.tmp 11) (.tmp 12)⟩,
 ⟨some 14, none, .ld1 (.tmp 13)⟩])
 (.cond (.tmp 14)
 (.seq (.ops [⟨some 15, none, .mov (.tmp 0)⟩,
 ⟨some 16, none, .agg [(.int .i64 0), (.int .i64 0), (.int .i64 0), (.string ⟨#[]⟩), (.int .i64 0), (.int .i64 0), (.int .i64 0)] [(0, 1, (.const (.int .i64 3))), (1, 1, (.const (.int .i64 1)))]⟩,
 ⟨some 17, none, .mov (.tmp 1)⟩,
 ⟨some 18, none, .call (.func 135) [(.tmp 15), (.tmp 16), (.tmp 17)]⟩])
 (.seq (.ops [⟨some 19, none, .mov (.tmp 0)⟩,
 ⟨some 20, none, .mov (.tmp 1)⟩,
 ⟨some 21, none, .call (.func 133) [(.tmp 19), (.tmp 20)]⟩])
 .ret))
 .skip))
 (.seq (.ops [⟨some 22, none, .mov (.tmp 0)⟩,
 ⟨some 23, none, .agg [(.int .i64 0), (.int .i64 0), (.int .i64 0), (.string ⟨#[]⟩), (.int .i64 0), (.int .i64 0), (.int .i64 0)] [(0, 1, (.const (.int .i64 24))), (1, 1, (.const (.int .i64 2)))]⟩,
 ⟨some 24, none, .mov (.tmp 1)⟩,
 ⟨some 25, none, .call (.func 135) [(.tmp 22), (.tmp 23), (.tmp 24)]⟩])
 (.seq (.ops [⟨some 26, none, .mov (.tmp 0)⟩,
 ⟨some 27, none, .mov (.tmp 1)⟩,
 ⟨some 28, none, .call (.func 132) [(.tmp 26), (.tmp 27)]⟩,
 ⟨some 29, none, .lnl (.tmp 28)⟩,
 ⟨some 30, none, .mov (.const (.int .i64 0))⟩])
 (.block 0 (.loop (.seq (.ops [⟨some 31, none, .bin .lss (.tmp 30) (.tmp 29)⟩])
 (.seq (.cond (.tmp 31)
 .skip
 (.exit 0))
 (.seq (.block 1 (.seq (.ops [⟨some 32, none, .iad 1 (.tmp 28) (.tmp 30)⟩,
 ⟨some 33, none, .ld1 (.tmp 32)⟩,
 ⟨some 7, none, .mov (.tmp 33)⟩])
 (.ops [⟨some 34, none, .mov (.tmp 0)⟩,
 ⟨some 35, none, .mov (.tmp 7)⟩,
 ⟨some 36, none, .mov (.tmp 2)⟩,
 ⟨some 37, none, .call (.func 86) [(.tmp 34), (.tmp 35), (.tmp 36)]⟩])))
 (.ops [⟨some 38, none, .bin .add (.tmp 30) (.const (.int .i64 1))⟩,
 ⟨some 30, none, .mov (.tmp 38)⟩])))))))))⟩
theorem ok134 : compF Tryz.prog Tryz.f134 = some c134 := by kernel_rfl
def c135 : CF := ⟨54, [.tmp 6],
 (.seq (.ops [⟨some 4, none, .box (.tmp 1)⟩,
 ⟨some 6, none, .mov (.const (.int .i64 0))⟩])
 (.seq (.ops [⟨some 7, none, .mov (.tmp 0)⟩,
 ⟨some 8, none, .nilck (.tmp 7)⟩,
 ⟨some 9, none, .fad (.tmp 8) 3⟩,
 ⟨some 10, none, .fad (.tmp 9) 0⟩,
 ⟨some 11, none, .ld1 (.tmp 10)⟩,
 ⟨some 12, none, .lnl (.tmp 11)⟩,
 ⟨some 13, none, .bin .lss (.tmp 12) (.const (.int .i64 2000))⟩,
 ⟨some 14, none, .call (.func 131) [(.tmp 13)]⟩])
 (.seq (.draw [⟨some 15, none, .mov (.tmp 0)⟩,
 ⟨some 16, none, .mov (.tmp 0)⟩,
 ⟨some 17, none, .nilck (.tmp 16)⟩,
 ⟨some 18, none, .fad (.tmp 17) 3⟩,
 ⟨some 19, none, .fad (.tmp 18) 0⟩,
 ⟨some 20, none, .ld1 (.tmp 19)⟩,
 ⟨some 21, none, .ld 7 (.tmp 4)⟩,
 ⟨some 22, none, .lits [(.int .i64 0), (.int .i64 0), (.int .i64 0), (.string ⟨#[]⟩), (.int .i64 0), (.int .i64 0), (.int .i64 0)] 1 [(0, 7, (.tmp 21))]⟩,
 ⟨some 23, none, .app 7 64 none (.tmp 20) (.tmp 22)⟩,
 ⟨some 24, none, .nilck (.tmp 15)⟩,
 ⟨some 25, none, .fad (.tmp 24) 3⟩,
 ⟨some 26, none, .fad (.tmp 25) 0⟩,
 ⟨none, none, .st 1 (.tmp 26) (.tmp 23)⟩] [(0, 1), (0, 2), (0, 3), (0, 4), (0, 5), (0, 6), (1, 6), (2, 6), (3, 6), (4, 6), (5, 6), (0, 7), (1, 7), (2, 7), (3, 7), (4, 7), (5, 7), (0, 8)])
 (.seq (.draw [⟨some 27, none, .mov (.tmp 0)⟩,
 ⟨some 28, none, .mov (.tmp 0)⟩,
 ⟨some 29, none, .nilck (.tmp 28)⟩,
 ⟨some 30, none, .fad (.tmp 29) 3⟩,
 ⟨some 31, none, .fad (.tmp 30) 1⟩,
 ⟨some 32, none, .ld1 (.tmp 31)⟩,
 ⟨some 33, none, .mov (.tmp 0)⟩,
 ⟨some 34, none, .nilck (.tmp 33)⟩,
 ⟨some 35, none, .fad (.tmp 34) 0⟩,
 ⟨some 36, none, .ld1 (.tmp 35)⟩,
 ⟨some 37, none, .mov (.tmp 2)⟩,
 ⟨some 38, none, .iad 6 (.tmp 36) (.tmp 37)⟩,
 ⟨some 39, none, .fad (.tmp 38) 5⟩,
 ⟨some 40, none, .ld1 (.tmp 39)⟩,
 ⟨some 41, none, .cvi .i64 (.tmp 40)⟩,
 ⟨some 42, none, .lits [(.int .i64 0)] 1 [(0, 1, (.tmp 41))]⟩,
 ⟨some 43, none, .app 1 8 none (.tmp 32) (.tmp 42)⟩,
 ⟨some 44, none, .nilck (.tmp 27)⟩,
 ⟨some 45, none, .fad (.tmp 44) 3⟩,
 ⟨some 46, none, .fad (.tmp 45) 1⟩,
 ⟨none, none, .st 1 (.tmp 46) (.tmp 43)⟩] [(0, 1), (0, 2), (0, 3), (0, 4), (0, 5), (0, 6), (1, 6), (2, 6), (3, 6), (4, 6), (5, 6), (0, 7), (1, 7), (2, 7), (3, 7), (4, 7), (5, 7), (0, 8), (1, 8), (2, 8), (3, 8), (4, 8), (5, 8), (0, 9), (1, 9), (2, 9), (3, 9), (4, 9), (5, 9), (0, 10), (1, 10), (2, 10), (3, 10), (4, 10), (5, 10), (6, 10), (7, 10), (8, 10), (9, 10), (0, 11), (1, 11), (2, 11), (3, 11), (4, 11), (5, 11), (0, 12), (1, 12), (2, 12), (3, 12), (4, 12), (5, 12), (0, 13), (1, 13), (2, 13), (3, 13), (4, 13), (5, 13), (0, 14), (1, 14), (2, 14), (3, 14), (4, 14), (5, 14), (0, 15), (1, 15), (2, 15), (3, 15), (4, 15), (5, 15), (0, 16)])
 (.seq (.ops [⟨some 47, none, .mov (.tmp 0)⟩,
 ⟨some 48, none, .nilck (.tmp 47)⟩,
 ⟨some 49, none, .fad (.tmp 48) 3⟩,
 ⟨some 50, none, .fad (.tmp 49) 0⟩,
 ⟨some 51, none, .ld1 (.tmp 50)⟩,
 ⟨some 52, none, .lnl (.tmp 51)⟩,
 ⟨some 53, none, .bin .sub (.tmp 52) (.const (.int .i64 1))⟩,
 ⟨some 6, none, .mov (.tmp 53)⟩])
 .ret)))))⟩
theorem ok135 : compF Tryz.prog Tryz.f135 = some c135 := by kernel_rfl
def c136 : CF := ⟨40, [],
 (.seq (.ops [⟨some 7, none, .mov (.tmp 0)⟩,
 ⟨some 8, none, .mov (.tmp 1)⟩,
 ⟨some 9, none, .call (.func 181) [(.tmp 7), (.tmp 8), (.const (.int .i64 8)), (.const (.int .i32 0))]⟩,
 ⟨some 10, none, .call (.func 131) [(.tmp 9)]⟩])
 (.seq (.ops [⟨some 11, none, .mov (.tmp 0)⟩,
 ⟨some 12, none, .nilck (.tmp 11)⟩,
 ⟨some 13, none, .fad (.tmp 12) 0⟩,
 ⟨some 14, none, .ld1 (.tmp 13)⟩,
 ⟨some 15, none, .mov (.tmp 1)⟩,
 ⟨some 16, none, .iad 6 (.tmp 14) (.tmp 15)⟩,
 ⟨some 17, none, .fad (.tmp 16) 2⟩,
 ⟨some 18, none, .ld1 (.tmp 17)⟩,
 ⟨some 6, none, .mov (.tmp 18)⟩])
 (.seq (.ops [⟨some 19, none, .mov (.tmp 0)⟩,
 ⟨some 20, none, .mov (.tmp 6)⟩,
 ⟨some 21, none, .bin .add (.tmp 20) (.const (.int .i64 1))⟩,
 ⟨some 22, none, .agg [(.int .i64 0), (.int .i64 0), (.int .i64 0), (.string ⟨#[]⟩), (.int .i64 0), (.int .i64 0), (.int .i64 0)] [(0, 1, (.const (.int .i64 8))), (1, 1, (.tmp 21))]⟩,
 ⟨some 23, none, .mov (.tmp 1)⟩,
 ⟨some 24, none, .call (.func 135) [(.tmp 19), (.tmp 22), (.tmp 23)]⟩])
 (.seq (.seq (.ops [⟨some 25, none, .mov (.tmp 6)⟩,
 ⟨some 26, none, .mov (.const (.int .i64 0))⟩])
 (.block 0 (.loop (.seq (.ops [⟨some 27, none, .bin .lss (.tmp 26) (.tmp 25)⟩])
 (.seq (.cond (.tmp 27)
 .skip
 (.exit 0))
 (.seq (.block 1 (.ops [⟨some 28, none, .mov (.tmp 2)⟩,
 ⟨some 29, none, .mov (.tmp 0)⟩,
 ⟨some 30, none, .mov (.tmp 1)⟩,
 ⟨some 31, none, .call (.func 183) [(.tmp 29), (.tmp 30)]⟩,
 ⟨some 32, none, .lits [(.int .i64 0)] 1 [(0, 1, (.tmp 31))]⟩,
 ⟨some 33, none, .call (.func 182) [(.tmp 28), (.tmp 32)]⟩,
 ⟨some 2, none, .mov (.tmp 33)⟩]))
 (.ops [⟨some 34, none, .bin .add (.tmp 26) (.const (.int .i64 1))⟩,
 ⟨some 26, none, .mov (.tmp 34)⟩])))))))
 (.ops [⟨some 35, none, .mov (.tmp 0)⟩,
 ⟨some 36, none, .mov (.tmp 1)⟩,
 ⟨some 37, none, .bin .add (.tmp 36) (.const (.int .i64 1))⟩,
 ⟨some 38, none, .mov (.tmp 2)⟩,
 ⟨some 39, none, .call (.func 86) [(.tmp 35), (.tmp 37), (.tmp 38)]⟩])))))⟩
theorem ok136 : compF Tryz.prog Tryz.f136 = some c136 := by kernel_rfl
def c137 : CF := ⟨22, [.tmp 4],
 (.seq (.ops [⟨some 4, none, .mov (.const (.slice none 0 0))⟩])
 (.seq (.ops [⟨some 5, none, .mov (.const (.int .i64 0))⟩])
 (.seq (.seq (.ops [⟨some 6, none, .mov (.const (.int .i64 1))⟩])
 (.block 0 (.loop (.seq (.seq (.ops [⟨some 7, none, .mov (.tmp 6)⟩,
 ⟨some 8, none, .bin .gtr (.tmp 7) (.const (.int .i64 0))⟩])
 (.cond (.tmp 8)
 .skip
 (.exit 0)))
 (.seq (.block 1 (.ops [⟨some 11, none, .mov (.tmp 6)⟩,
 ⟨some 12, none, .mov (.tmp 1)⟩,
 ⟨some 13, none, .mov (.tmp 5)⟩,
 ⟨some 14, none, .iad 6 (.tmp 12) (.tmp 13)⟩,
 ⟨some 15, none, .fad (.tmp 14) 1⟩,
 ⟨some 16, none, .ld1 (.tmp 15)⟩,
 ⟨some 17, none, .bin .sub (.tmp 16) (.const (.int .i64 1))⟩,
 ⟨some 18, none, .bin .add (.tmp 11) (.tmp 17)⟩,
 ⟨some 6, none, .mov (.tmp 18)⟩]))
 (.ops [⟨some 9, none, .mov (.tmp 5)⟩,
 ⟨some 10, none, .bin .add (.tmp 9) (.const (.int .i64 1))⟩,
 ⟨some 5, none, .mov (.tmp 10)⟩]))))))
 (.seq (.ops [⟨some 19, none, .mov (.tmp 1)⟩,
 ⟨some 20, none, .mov (.tmp 5)⟩,
 ⟨some 21, none, .sl 6 (.tmp 19) (some (.tmp 20)) none none⟩,
 ⟨some 4, none, .mov (.tmp 21)⟩])
 .ret))))⟩
theorem ok137 : compF Tryz.prog Tryz.f137 = some c137 := by kernel_rfl
def c138 : CF := ⟨94, [],
 (.seq (.ops [⟨some 3, none, .box (.tmp 1)⟩])
 (.seq (.seq (.ops [⟨some 6, none, .mov (.tmp 0)⟩,
 ⟨some 7, none, .nilck (.tmp 6)⟩,
 ⟨some 8, none, .fad (.tmp 7) 1⟩,
 ⟨some 9, none, .ld1 (.tmp 8)⟩,
 ⟨some 10, none, .lnl (.tmp 9)⟩,
 ⟨some 4, none, .mov (.tmp 10)⟩])
 (.block 0 (.loop (.seq (.seq (.ops [⟨some 11, none, .mov (.tmp 4)⟩,
 ⟨some 12, none, .bin .gtr (.tmp 11) (.const (.int .i64 0))⟩,
 ⟨some 13, none, .mov (.tmp 12)⟩,
 ⟨some 14, (some (13, true)), .mov (.tmp 0)⟩,
 ⟨some 15, (some (13, true)), .nilck (.tmp 14)⟩,
 ⟨some 16, (some (13, true)), .fad (.tmp 15) 1⟩,
 ⟨some 17, (some (13, true)), .ld1 (.tmp 16)⟩,
 ⟨some 18, (some (13, true)), .mov (.tmp 4)⟩,
 ⟨some 19, (some (13, true)), .bin .sub (.tmp 18) (.const (.int .i64 1))⟩,
 ⟨some 20, (some (13, true)), .iad 1 (.tmp 17) (.tmp 19)⟩,
 ⟨some 21, (some (13, true)), .ld1 (.tmp 20)⟩,
 ⟨some 22, (some (13, true)), .bin .eql (.tmp 21) (.const (.int .i64 0))⟩,
 ⟨some 23, none, .pick (.tmp 13) (.tmp 22) (.const (.bool false))⟩])
 (.cond (.tmp 23)
 .skip
 (.exit 0)))
 (.seq (.block 1 (.ops [⟨some 29, none, .mov (.tmp 0)⟩,
 ⟨some 30, none, .mov (.tmp 0)⟩,
 ⟨some 31, none, .nilck (.tmp 30)⟩,
 ⟨some 32, none, .fad (.tmp 31) 1⟩,
 ⟨some 33, none, .ld1 (.tmp 32)⟩,
 ⟨some 34, none, .mov (.tmp 4)⟩,
 ⟨some 35, none, .bin .sub (.tmp 34) (.const (.int .i64 1))⟩,
 ⟨some 36, none, .sl 1 (.tmp 33) none (some (.tmp 35)) none⟩,
 ⟨some 37, none, .nilck (.tmp 29)⟩,
 ⟨some 38, none, .fad (.tmp 37) 1⟩,
 ⟨none, none, .st 1 (.tmp 38) (.tmp 36)⟩]))
 (.ops [⟨some 24, none, .mov (.tmp 0)⟩,
 ⟨some 25, none, .nilck (.tmp 24)⟩,
 ⟨some 26, none, .fad (.tmp 25) 1⟩,
 ⟨some 27, none, .ld1 (.tmp 26)⟩,
 ⟨some 28, none, .lnl (.tmp 27)⟩,
 ⟨some 4, none, .mov (.tmp 28)⟩]))))))
 (.seq (.seq (.ops [⟨some 39, none, .mov (.tmp 0)⟩,
 ⟨some 40, none, .nilck (.tmp 39)⟩,
 ⟨some 41, none, .fad (.tmp 40) 0⟩,
 ⟨some 42, none, .ld1 (.tmp 41)⟩,
 ⟨some 43, none, .lnl (.tmp 42)⟩,
 ⟨some 44, none, .bin .eql (.tmp 43) (.const (.int .i64 2000))⟩,
 ⟨some 45, none, .mov (.tmp 44)⟩,
 ⟨some 46, (some (45, false)), .mov (.tmp 0)⟩,
 ⟨some 47, (some (45, false)), .nilck (.tmp 46)⟩,
 ⟨some 48, (some (45, false)), .fad (.tmp 47) 1⟩,
 ⟨some 49, (some (45, false)), .ld1 (.tmp 48)⟩,
 ⟨some 50, (some (45, false)), .lnl (.tmp 49)⟩,
 ⟨some 51, (some (45, false)), .bin .gtr (.tmp 50) (.const (.int .i64 200))⟩,
 ⟨some 52, none, .pick (.tmp 45) (.const (.bool true)) (.tmp 51)⟩])
 (.cond (.tmp 52)
 (.seq (.ops [⟨some 53, none, .mov (.tmp 0)⟩,
 ⟨some 54, none, .nilck (.tmp 53)⟩,
 ⟨some 55, none, .fad (.tmp 54) 2⟩,
 ⟨none, none, .st 1 (.tmp 55) (.const (.int .i64 3))⟩])
 .ret)
 .skip))
 (.seq (.seq (.ops [⟨some 56, none, .mov (.tmp 0)⟩,
 ⟨some 57, none, .nilck (.tmp 56)⟩,
 ⟨some 58, none, .fad (.tmp 57) 1⟩,
 ⟨some 59, none, .ld1 (.tmp 58)⟩,
 ⟨some 60, none, .lnl (.tmp 59)⟩,
 ⟨some 5, none, .mov (.tmp 60)⟩])
 (.seq (.ops [⟨some 61, none, .mov (.tmp 5)⟩,
 ⟨some 62, none, .bin .gtr (.tmp 61) (.const (.int .i64 0))⟩])
 (.cond (.tmp 62)
 (.ops [⟨some 63, none, .mov (.tmp 0)⟩,
 ⟨some 64, none, .nilck (.tmp 63)⟩,
 ⟨some 65, none, .fad (.tmp 64) 1⟩,
 ⟨some 66, none, .ld1 (.tmp 65)⟩,
 ⟨some 67, none, .mov (.tmp 5)⟩,
 ⟨some 68, none, .bin .sub (.tmp 67) (.const (.int .i64 1))⟩,
 ⟨some 69, none, .iad 1 (.tmp 66) (.tmp 68)⟩,
 ⟨some 70, none, .ld1 (.tmp 69)⟩,
 ⟨some 71, none, .bin .sub (.tmp 70) (.const (.int .i64 1))⟩,
 ⟨some 72, none, .iad 1 (.tmp 66) (.tmp 68)⟩,
 ⟨none, none, .st 1 (.tmp 72) (.tmp 71)⟩])
 .skip)))
 (.draw [⟨some 73, none, .mov (.tmp 0)⟩,
 ⟨some 74, none, .mov (.tmp 0)⟩,
 ⟨some 75, none, .mov (.tmp 0)⟩,
 ⟨some 76, none, .nilck (.tmp 75)⟩,
 ⟨some 77, none, .fad (.tmp 76) 0⟩,
 ⟨some 78, none, .ld1 (.tmp 77)⟩,
 ⟨some 79, none, .ld 6 (.tmp 3)⟩,
 ⟨some 80, none, .lits [(.int .i64 0), (.int .i64 0), (.int .i64 0), (.string ⟨#[]⟩), (.int .i32 0), (.int .i32 0)] 1 [(0, 6, (.tmp 79))]⟩,
 ⟨some 81, none, .app 6 48 none (.tmp 78) (.tmp 80)⟩,
 ⟨some 82, none, .mov (.tmp 0)⟩,
 ⟨some 83, none, .nilck (.tmp 82)⟩,
 ⟨some 84, none, .fad (.tmp 83) 1⟩,
 ⟨some 85, none, .ld1 (.tmp 84)⟩,
 ⟨some 86, none, .fad (.tmp 3) 1⟩,
 ⟨some 87, none, .ld1 (.tmp 86)⟩,
 ⟨some 88, none, .lits [(.int .i64 0)] 1 [(0, 1, (.tmp 87))]⟩,
 ⟨some 89, none, .app 1 8 none (.tmp 85) (.tmp 88)⟩,
 ⟨some 90, none, .nilck (.tmp 73)⟩,
 ⟨some 91, none, .fad (.tmp 90) 0⟩,
 ⟨none, none, .st 1 (.tmp 91) (.tmp 81)⟩,
 ⟨some 92, none, .nilck (.tmp 74)⟩,
 ⟨some 93, none, .fad (.tmp 92) 1⟩,
 ⟨none, none, .st 1 (.tmp 93) (.tmp 89)⟩] [(0, 1), (0, 2), (1, 2), (0, 3), (1, 3), (0, 4), (1, 4), (0, 5), (1, 5), (0, 6), (1, 6), (2, 6), (3, 6), (4, 6), (5, 6), (0, 7), (1, 7), (2, 7), (3, 7), (4, 7), (5, 7), (0, 8), (1, 8), (0, 9), (1, 9), (2, 9), (3, 9), (4, 9), (5, 9), (6, 9), (7, 9), (8, 9), (0, 10), (1, 10), (2, 10), (3, 10), (4, 10), (5, 10), (6, 10), (7, 10), (8, 10), (0, 11), (1, 11), (2, 11), (3, 11), (4, 11), (5, 11), (6, 11), (7, 11), (8, 11), (0, 12), (1, 12), (2, 12), (3, 12), (4, 12), (5, 12), (6, 12), (7, 12), (8, 12), (0, 13), (1, 13), (2, 13), (3, 13), (4, 13), (5, 13), (6, 13), (7, 13), (8, 13), (9, 13), (10, 13), (11, 13), (12, 13), (0, 14), (1, 14), (2, 14), (3, 14), (4, 14), (5, 14), (6, 14), (7, 14), (8, 14), (9, 14), (10, 14), (11, 14), (12, 14), (0, 15), (1, 15), (2, 15), (3, 15), (4, 15), (5, 15), (6, 15), (7, 15), (8, 15), (9, 15), (10, 15), (11, 15), (12, 15), (0, 16), (1, 16), (1, 17), (1, 18), (1, 19)])))))⟩
theorem ok138 : compF Tryz.prog Tryz.f138 = some c138 := by kernel_rfl
def c139 : CF := ⟨13, [.tmp 8],
 (.seq (.ops [⟨some 4, none, .box (.tmp 0)⟩,
 ⟨some 6, none, .box (.tmp 2)⟩,
 ⟨some 7, none, .box (.tmp 3)⟩,
 ⟨some 8, none, .mov (.const (.slice none 0 0))⟩])
 (.seq (.ops [⟨some 9, none, .ld1 (.tmp 4)⟩,
 ⟨some 10, none, .mov (.tmp 1)⟩,
 ⟨some 11, none, .fn 185 [] [(.tmp 7), (.tmp 6), (.tmp 4)]⟩,
 ⟨some 12, none, .call (.func 184) [(.tmp 9), (.tmp 10), (.const (.int .i64 0)), (.tmp 11)]⟩,
 ⟨some 8, none, .mov (.tmp 12)⟩])
 .ret))⟩
theorem ok139 : compF Tryz.prog Tryz.f139 = some c139 := by kernel_rfl
def c140 : CF := ⟨13, [.tmp 8],
 (.seq (.ops [⟨some 4, none, .box (.tmp 0)⟩,
 ⟨some 6, none, .box (.tmp 2)⟩,
 ⟨some 7, none, .box (.tmp 3)⟩,
 ⟨some 8, none, .mov (.const (.slice none 0 0))⟩])
 (.seq (.ops [⟨some 9, none, .ld1 (.tmp 4)⟩,
 ⟨some 10, none, .mov (.tmp 1)⟩,
 ⟨some 11, none, .fn 186 [] [(.tmp 6), (.tmp 7), (.tmp 4)]⟩,
 ⟨some 12, none, .call (.func 184) [(.tmp 9), (.tmp 10), (.const (.int .i64 0)), (.tmp 11)]⟩,
 ⟨some 8, none, .mov (.tmp 12)⟩])
 .ret))⟩
theorem ok140 : compF Tryz.prog Tryz.f140 = some c140 := by kernel_rfl
def c141 : CF := ⟨13, [],
 (.seq (.ops [⟨some 3, none, .box (.tmp 0)⟩,
 ⟨some 5, none, .box (.tmp 2)⟩])
 (.seq (.ops [⟨some 7, none, .ld1 (.tmp 5)⟩,
 ⟨some 8, none, .lnl (.tmp 7)⟩,
 ⟨some 6, none, .newz [(.int .i64 0)]⟩,
 ⟨none, none, .st 1 (.tmp 6) (.tmp 8)⟩])
 (.ops [⟨some 9, none, .ld1 (.tmp 3)⟩,
 ⟨some 10, none, .mov (.tmp 1)⟩,
 ⟨some 11, none, .fn 187 [] [(.tmp 6), (.tmp 5), (.tmp 3)]⟩,
 ⟨some 12, none, .call (.func 184) [(.tmp 9), (.tmp 10), (.const (.int .i64 0)), (.tmp 11)]⟩])))⟩
theorem ok141 : compF Tryz.prog Tryz.f141 = some c141 := by kernel_rfl
def c142 : CF := ⟨24, [.tmp 2, .tmp 3],
 (.seq (.ops [⟨some 2, none, .mov (.const (.slice none 0 0))⟩,
 ⟨some 3, none, .mov (.const (.int .i64 0))⟩])
 (.seq (.block 0 (.seq (.ops [⟨some 5, none, .mov (.tmp 0)⟩,
 ⟨some 6, none, .nilck (.tmp 5)⟩,
 ⟨some 7, none, .fad (.tmp 6) 2⟩,
 ⟨some 8, none, .ld1 (.tmp 7)⟩,
 ⟨some 9, none, .bin .neq (.tmp 8) (.const (.int .i64 0))⟩,
 ⟨some 4, none, .mov (.tmp 9)⟩])
 (.cond (.tmp 4)
 (.seq (.draw [⟨some 10, none, .mov (.tmp 0)⟩,
 ⟨some 11, none, .nilck (.tmp 10)⟩,
 ⟨some 12, none, .fad (.tmp 11) 2⟩,
 ⟨some 13, none, .ld1 (.tmp 12)⟩,
 ⟨some 2, none, .mov (.const (.slice none 0 0))⟩,
 ⟨some 3, none, .mov (.tmp 13)⟩] [(0, 4), (1, 4), (2, 4), (3, 4)])
 .ret)
 (.seq (.ops [⟨some 15, none, .mov (.tmp 0)⟩,
 ⟨some 16, none, .nilck (.tmp 15)⟩,
 ⟨some 17, none, .fad (.tmp 16) 0⟩,
 ⟨some 18, none, .ld1 (.tmp 17)⟩,
 ⟨some 19, none, .call (.func 188) [(.tmp 18), (.func 189)]⟩,
 ⟨some 14, none, .mov (.tmp 19)⟩])
 (.cond (.tmp 14)
 (.seq (.ops [⟨some 2, none, .mov (.const (.slice none 0 0))⟩,
 ⟨some 3, none, .mov (.const (.int .i64 7))⟩])
 .ret)
 .skip)))))
 (.seq (.ops [⟨some 20, none, .mov (.tmp 0)⟩,
 ⟨some 21, none, .nilck (.tmp 20)⟩,
 ⟨some 22, none, .fad (.tmp 21) 0⟩,
 ⟨some 23, none, .ld1 (.tmp 22)⟩,
 ⟨some 2, none, .mov (.tmp 23)⟩,
 ⟨some 3, none, .mov (.const (.int .i64 0))⟩])
 .ret)))⟩
theorem ok142 : compF Tryz.prog Tryz.f142 = some c142 := by kernel_rfl
def c143 : CF := ⟨36, [.tmp 2],
 (.seq (.ops [⟨some 2, none, .mov (.const (.slice none 0 0))⟩])
 (.seq (.ops [⟨some 3, none, .mov (.const (.int .i64 0))⟩])
 (.seq (.seq (.ops [⟨some 9, none, .mov (.tmp 0)⟩,
 ⟨some 10, none, .lnl (.tmp 9)⟩,
 ⟨some 11, none, .mov (.const (.int .i64 0))⟩])
 (.block 0 (.loop (.seq (.ops [⟨some 12, none, .bin .lss (.tmp 11) (.tmp 10)⟩])
 (.seq (.cond (.tmp 12)
 .skip
 (.exit 0))
 (.seq (.block 1 (.seq (.ops [⟨some 13, none, .iad 1 (.tmp 9) (.tmp 11)⟩,
 ⟨some 14, none, .ld1 (.tmp 13)⟩,
 ⟨some 5, none, .mov (.tmp 14)⟩])
 (.seq (.ops [⟨some 15, none, .mov (.tmp 3)⟩,
 ⟨some 16, none, .mov (.tmp 5)⟩,
 ⟨some 17, none, .lnl (.tmp 16)⟩,
 ⟨some 18, none, .bin .add (.tmp 15) (.tmp 17)⟩,
 ⟨some 3, none, .mov (.tmp 18)⟩])
 (.seq (.ops [⟨some 19, none, .mov (.tmp 3)⟩,
 ⟨some 20, none, .bin .lss (.tmp 19) (.const (.int .i64 0))⟩])
 (.cond (.tmp 20)
 (.ops [⟨some 21, none, .ifc 9 (.const (.string ⟨#[108, 101, 110, 32, 111, 117, 116, 32, 111, 102, 32, 114, 97, 110, 103, 101]⟩))⟩,
 ⟨none, none, .bad⟩])
 .skip)))))
 (.ops [⟨some 22, none, .bin .add (.tmp 11) (.const (.int .i64 1))⟩,
 ⟨some 11, none, .mov (.tmp 22)⟩])))))))
 (.seq (.ops [⟨some 23, none, .mov (.tmp 3)⟩,
 ⟨some 24, none, .call (.func 190) [(.const (.slice none 0 0)), (.tmp 23)]⟩,
 ⟨some 6, none, .mov (.tmp 24)⟩])
 (.seq (.seq (.ops [⟨some 25, none, .mov (.tmp 0)⟩,
 ⟨some 26, none, .lnl (.tmp 25)⟩,
 ⟨some 27, none, .mov (.const (.int .i64 0))⟩])
 (.block 2 (.loop (.seq (.ops [⟨some 28, none, .bin .lss (.tmp 27) (.tmp 26)⟩])
 (.seq (.cond (.tmp 28)
 .skip
 (.exit 2))
 (.seq (.block 3 (.seq (.ops [⟨some 29, none, .iad 1 (.tmp 25) (.tmp 27)⟩,
 ⟨some 30, none, .ld1 (.tmp 29)⟩,
 ⟨some 8, none, .mov (.tmp 30)⟩])
 (.ops [⟨some 31, none, .mov (.tmp 6)⟩,
 ⟨some 32, none, .mov (.tmp 8)⟩,
 ⟨some 33, none, .app 1 24 none (.tmp 31) (.tmp 32)⟩,
 ⟨some 6, none, .mov (.tmp 33)⟩])))
 (.ops [⟨some 34, none, .bin .add (.tmp 27) (.const (.int .i64 1))⟩,
 ⟨some 27, none, .mov (.tmp 34)⟩])))))))
 (.seq (.ops [⟨some 35, none, .mov (.tmp 6)⟩,
 ⟨some 2, none, .mov (.tmp 35)⟩])
 .ret))))))⟩
theorem ok143 : compF Tryz.prog Tryz.f143 = some c143 := by kernel_rfl
def c144 : CF := ⟨29, [.cells 2 4, .tmp 3],
 (.seq (.ops [⟨some 2, none, .newz [(.string ⟨#[]⟩), (.int .i64 0), (.bool false), .nilFunc]⟩,
 ⟨some 3, none, .mov (.const (.bool false))⟩])
 (.seq (.ops [⟨some 9, none, .mkm⟩,
 ⟨some 4, none, .mov (.tmp 9)⟩])
 (.seq (.seq (.ops [⟨some 10, none, .call (.func 191) []⟩,
 ⟨some 11, none, .lnl (.tmp 10)⟩,
 ⟨some 12, none, .mov (.const (.int .i64 0))⟩])
 (.block 0 (.loop (.seq (.ops [⟨some 13, none, .bin .lss (.tmp 12) (.tmp 11)⟩])
 (.seq (.cond (.tmp 13)
 .skip
 (.exit 0))
 (.seq (.block 1 (.seq (.ops [⟨some 14, none, .iad 4 (.tmp 10) (.tmp 12)⟩,
 ⟨some 15, none, .ld 4 (.tmp 14)⟩,
 ⟨some 6, none, .newz [(.string ⟨#[]⟩), (.int .i64 0), (.bool false), .nilFunc]⟩,
 ⟨none, none, .st 4 (.tmp 6) (.tmp 15)⟩])
 (.ops [⟨some 16, none, .mov (.tmp 4)⟩,
 ⟨some 17, none, .fad (.tmp 6) 0⟩,
 ⟨some 18, none, .ld1 (.tmp 17)⟩,
 ⟨some 19, none, .ld 4 (.tmp 6)⟩,
 ⟨none, none, .mup .string (.tmp 16) (.tmp 18) (.tmp 19)⟩])))
 (.ops [⟨some 20, none, .bin .add (.tmp 12) (.const (.int .i64 1))⟩,
 ⟨some 12, none, .mov (.tmp 20)⟩])))))))
 (.seq (.ops [⟨some 22, none, .mov (.tmp 4)⟩,
 ⟨some 23, none, .mov (.tmp 0)⟩,
 ⟨some 24, none, .lkp .string (.agg #[(.string ⟨#[]⟩), (.int .i64 0), (.bool false), .nilFunc]) (.tmp 22) (.tmp 23) true⟩,
 ⟨some 21, none, .mov (.tmp 24)⟩,
 ⟨some 25, none, .ext (.tmp 21) 0⟩,
 ⟨some 26, none, .ext (.tmp 21) 1⟩,
 ⟨some 7, none, .newz [(.string ⟨#[]⟩), (.int .i64 0), (.bool false), .nilFunc]⟩,
 ⟨none, none, .st 4 (.tmp 7) (.tmp 25)⟩,
 ⟨some 8, none, .mov (.tmp 26)⟩])
 (.seq (.ops [⟨some 27, none, .ld 4 (.tmp 7)⟩,
 ⟨some 28, none, .mov (.tmp 8)⟩,
 ⟨none, none, .st 4 (.tmp 2) (.tmp 27)⟩,
 ⟨some 3, none, .mov (.tmp 28)⟩])
 .ret)))))⟩
theorem ok144 : compF Tryz.prog Tryz.f144 = some c144 := by kernel_rfl
def c145 : CF := ⟨22, [.tmp 2],
 (.seq (.ops [⟨some 2, none, .mov (.const (.int .i64 0))⟩])
 (.seq (.seq (.ops [⟨some 8, none, .mov (.tmp 0)⟩,
 ⟨some 9, none, .call (.func 37) [(.tmp 8), (.const (.bool false))]⟩,
 ⟨some 7, none, .mov (.tmp 9)⟩,
 ⟨some 10, none, .ext (.tmp 7) 0⟩,
 ⟨some 11, none, .ext (.tmp 7) 1⟩,
 ⟨some 3, none, .mov (.tmp 10)⟩,
 ⟨some 4, none, .mov (.tmp 11)⟩])
 (.seq (.ops [⟨some 12, none, .mov (.tmp 4)⟩,
 ⟨some 13, none, .bin .neq (.tmp 12) (.const (.int .i64 0))⟩])
 (.cond (.tmp 13)
 (.seq (.ops [⟨some 14, none, .mov (.tmp 4)⟩,
 ⟨some 2, none, .mov (.tmp 14)⟩])
 .ret)
 .skip)))
 (.seq (.seq (.ops [⟨some 16, none, .mov (.tmp 0)⟩,
 ⟨some 17, none, .call (.func 192) [(.tmp 16), (.const (.int .i64 0))]⟩,
 ⟨some 15, none, .mov (.tmp 17)⟩,
 ⟨some 18, none, .ext (.tmp 15) 0⟩,
 ⟨some 19, none, .ext (.tmp 15) 1⟩,
 ⟨some 5, none, .mov (.tmp 18)⟩,
 ⟨some 6, none, .mov (.tmp 19)⟩])
 (.seq (.ops [⟨some 20, none, .mov (.tmp 5)⟩,
 ⟨some 21, none, .un .not (.tmp 20)⟩])
 (.cond (.tmp 21)
 (.seq (.ops [⟨some 2, none, .mov (.const (.int .i64 6))⟩])
 .ret)
 .skip)))
 (.seq (.ops [⟨some 2, none, .mov (.const (.int .i64 0))⟩])
 .ret))))⟩
theorem ok145 : compF Tryz.prog Tryz.f145 = some c145 := by kernel_rfl
def c146 : CF := ⟨19, [.tmp 4],
 (.seq (.ops [⟨some 4, none, .mov (.const (.int .i64 0))⟩])
 (.seq (.seq (.ops [⟨some 6, none, .mov (.tmp 0)⟩,
 ⟨some 7, none, .lnl (.tmp 6)⟩,
 ⟨some 8, none, .mov (.const (.int .i64 0))⟩])
 (.block 0 (.loop (.seq (.ops [⟨some 9, none, .bin .lss (.tmp 8) (.tmp 7)⟩])
 (.seq (.cond (.tmp 9)
 .skip
 (.exit 0))
 (.seq (.block 1 (.seq (.ops [⟨some 10, none, .mov (.tmp 8)⟩,
 ⟨some 5, none, .mov (.tmp 10)⟩])
 (.seq (.ops [⟨some 11, none, .mov (.tmp 1)⟩,
 ⟨some 12, none, .mov (.tmp 0)⟩,
 ⟨some 13, none, .mov (.tmp 5)⟩,
 ⟨some 14, none, .iad 1 (.tmp 12) (.tmp 13)⟩,
 ⟨some 15, none, .ld1 (.tmp 14)⟩,
 ⟨some 16, none, .call (.tmp 11) [(.tmp 15)]⟩])
 (.cond (.tmp 16)
 (.seq (.ops [⟨some 17, none, .mov (.tmp 5)⟩,
 ⟨some 4, none, .mov (.tmp 17)⟩])
 .ret)
 .skip))))
 (.ops [⟨some 18, none, .bin .add (.tmp 8) (.const (.int .i64 1))⟩,
 ⟨some 8, none, .mov (.tmp 18)⟩])))))))
 (.seq (.ops [⟨some 4, none, .mov (.const (.int .i64 (-1)))⟩])
 .ret)))⟩
theorem ok146 : compF Tryz.prog Tryz.f146 = some c146 := by kernel_rfl
def c147 : CF := ⟨8, [.tmp 2],
 (.seq (.ops [⟨some 2, none, .mov (.const (.bool false))⟩])
 (.seq (.ops [⟨some 3, none, .mov (.tmp 0)⟩,
 ⟨some 4, none, .iad 6 (.tmp 3) (.const (.int .i64 0))⟩,
 ⟨some 5, none, .fad (.tmp 4) 0⟩,
 ⟨some 6, none, .ld1 (.tmp 5)⟩,
 ⟨some 7, none, .bin .neq (.tmp 6) (.const (.int .i64 1))⟩,
 ⟨some 2, none, .mov (.tmp 7)⟩])
 .ret))⟩
theorem ok147 : compF Tryz.prog Tryz.f147 = some c147 := by kernel_rfl
def c148 : CF := ⟨27, [.tmp 4],
 (.seq (.ops [⟨some 4, none, .mov (.const (.slice none 0 0))⟩])
 (.seq (.seq (.ops [⟨some 5, none, .mov (.tmp 1)⟩,
 ⟨some 6, none, .bin .lss (.tmp 5) (.const (.int .i64 0))⟩])
 (.cond (.tmp 6)
 (.ops [⟨some 7, none, .ifc 9 (.const (.string ⟨#[99, 97, 110, 110, 111, 116, 32, 98, 101, 32, 110, 101, 103, 97, 116, 105, 118, 101]⟩))⟩,
 ⟨none, none, .bad⟩])
 .skip))
 (.seq (.seq (.ops [⟨some 8, none, .mov (.tmp 1)⟩,
 ⟨some 9, none, .mov (.tmp 0)⟩,
 ⟨some 10, none, .cap (.tmp 9)⟩,
 ⟨some 11, none, .mov (.tmp 0)⟩,
 ⟨some 12, none, .lnl (.tmp 11)⟩,
 ⟨some 13, none, .bin .sub (.tmp 10) (.tmp 12)⟩,
 ⟨some 14, none, .bin .sub (.tmp 8) (.tmp 13)⟩,
 ⟨some 1, none, .mov (.tmp 14)⟩])
 (.seq (.ops [⟨some 15, none, .mov (.tmp 1)⟩,
 ⟨some 16, none, .bin .gtr (.tmp 15) (.const (.int .i64 0))⟩])
 (.cond (.tmp 16)
 (.ops [⟨some 17, none, .mov (.tmp 0)⟩,
 ⟨some 18, none, .mov (.tmp 0)⟩,
 ⟨some 19, none, .cap (.tmp 18)⟩,
 ⟨some 20, none, .sl 6 (.tmp 17) none (some (.tmp 19)) none⟩,
 ⟨some 21, none, .mov (.tmp 1)⟩,
 ⟨some 22, none, .apz 48 [(.int .i64 0), (.int .i64 0), (.int .i64 0), (.string ⟨#[]⟩), (.int .i32 0), (.int .i32 0)] (.tmp 20) (.tmp 21)⟩,
 ⟨some 23, none, .mov (.tmp 0)⟩,
 ⟨some 24, none, .lnl (.tmp 23)⟩,
 ⟨some 25, none, .sl 6 (.tmp 22) none (some (.tmp 24)) none⟩,
 ⟨some 0, none, .mov (.tmp 25)⟩])
 .skip)))
 (.seq (.ops [⟨some 26, none, .mov (.tmp 0)⟩,
 ⟨some 4, none, .mov (.tmp 26)⟩])
 .ret))))⟩
theorem ok148 : compF Tryz.prog Tryz.f148 = some c148 := by kernel_rfl
def c149 : CF := ⟨17, [.tmp 2],
 (.seq (.ops [⟨some 2, none, .mov (.const (.bool false))⟩])
 (.seq (.ops [⟨some 3, none, .mov (.tmp 0)⟩,
 ⟨some 4, none, .bin .eql (.tmp 3) (.const (.int .i64 4))⟩,
 ⟨some 5, none, .mov (.tmp 4)⟩,
 ⟨some 6, (some (5, false)), .mov (.tmp 0)⟩,
 ⟨some 7, (some (5, false)), .bin .eql (.tmp 6) (.const (.int .i64 6))⟩,
 ⟨some 8, none, .pick (.tmp 5) (.const (.bool true)) (.tmp 7)⟩,
 ⟨some 9, none, .mov (.tmp 8)⟩,
 ⟨some 10, (some (9, false)), .mov (.tmp 0)⟩,
 ⟨some 11, (some (9, false)), .bin .eql (.tmp 10) (.const (.int .i64 9))⟩,
 ⟨some 12, none, .pick (.tmp 9) (.const (.bool true)) (.tmp 11)⟩,
 ⟨some 13, none, .mov (.tmp 12)⟩,
 ⟨some 14, (some (13, false)), .mov (.tmp 0)⟩,
 ⟨some 15, (some (13, false)), .bin .eql (.tmp 14) (.const (.int .i64 7))⟩,
 ⟨some 16, none, .pick (.tmp 13) (.const (.bool true)) (.tmp 15)⟩,
 ⟨some 2, none, .mov (.tmp 16)⟩])
 .ret))⟩
theorem ok149 : compF Tryz.prog Tryz.f149 = some c149 := by kernel_rfl
def c150 : CF := ⟨61, [.tmp 4],
 (.seq (.ops [⟨some 3, none, .box (.tmp 1)⟩,
 ⟨some 4, none, .mov (.const (.int .i64 0))⟩])
 (.seq (.seq (.ops [⟨some 7, none, .fad (.tmp 3) 0⟩,
 ⟨some 8, none, .ld1 (.tmp 7)⟩,
 ⟨some 9, none, .bin .lss (.tmp 8) (.const (.int .i64 0))⟩])
 (.cond (.tmp 9)
 (.seq (.ops [⟨some 4, none, .mov (.const (.int .i64 0))⟩])
 .ret)
 .skip))
 (.seq (.draw [⟨some 10, none, .mov (.tmp 0)⟩,
 ⟨some 11, none, .nilck (.tmp 10)⟩,
 ⟨some 12, none, .fad (.tmp 11) 0⟩,
 ⟨some 13, none, .ld1 (.tmp 12)⟩,
 ⟨some 14, none, .fad (.tmp 3) 0⟩,
 ⟨some 15, none, .ld1 (.tmp 14)⟩,
 ⟨some 16, none, .iad 7 (.tmp 13) (.tmp 15)⟩,
 ⟨some 17, none, .ld 7 (.tmp 16)⟩,
 ⟨some 5, none, .newz [(.int .i64 0), (.int .i64 0), (.int .i64 0), (.string ⟨#[]⟩), (.int .i64 0), (.int .i64 0), (.int .i64 0)]⟩,
 ⟨none, none, .st 7 (.tmp 5) (.tmp 17)⟩] [(0, 4), (1, 4), (2, 4), (3, 4), (0, 5), (1, 5), (2, 5), (3, 5), (0, 8), (1, 8), (2, 8), (3, 8), (4, 8), (5, 8), (6, 8), (7, 8)])
 (.seq (.draw [⟨some 18, none, .mov (.tmp 0)⟩,
 ⟨some 19, none, .fad (.tmp 5) 0⟩,
 ⟨some 20, none, .ld1 (.tmp 19)⟩,
 ⟨some 21, none, .nilck (.tmp 18)⟩,
 ⟨some 22, none, .fad (.tmp 21) 2⟩,
 ⟨some 23, none, .iaa 25 5 (.tmp 22) (.tmp 20)⟩,
 ⟨some 24, none, .ld 5 (.tmp 23)⟩,
 ⟨some 6, none, .newz [(.int .i64 0), (.int .i64 0), (.int .i64 0), (.int .i64 0), (.slice none 0 0)]⟩,
 ⟨none, none, .st 5 (.tmp 6) (.tmp 24)⟩] [(0, 1), (0, 2), (1, 3), (2, 3), (1, 4), (2, 4), (0, 7), (1, 7), (2, 7), (3, 7), (4, 7), (5, 7), (6, 7)])
 (.seq (.block 0 (.seq (.ops [⟨some 26, none, .fad (.tmp 3) 1⟩,
 ⟨some 27, none, .ld1 (.tmp 26)⟩,
 ⟨some 28, none, .fad (.tmp 5) 1⟩,
 ⟨some 29, none, .ld1 (.tmp 28)⟩,
 ⟨some 30, none, .bin .sub (.tmp 29) (.const (.int .i64 1))⟩,
 ⟨some 31, none, .bin .eql (.tmp 27) (.tmp 30)⟩,
 ⟨some 25, none, .mov (.tmp 31)⟩])
 (.cond (.tmp 25)
 (.seq (.ops [⟨some 32, none, .fad (.tmp 6) 3⟩,
 ⟨some 33, none, .ld1 (.tmp 32)⟩,
 ⟨some 4, none, .mov (.tmp 33)⟩])
 .ret)
 (.seq (.ops [⟨some 35, none, .fad (.tmp 5) 0⟩,
 ⟨some 36, none, .ld1 (.tmp 35)⟩,
 ⟨some 37, none, .call (.func 151) [(.tmp 36)]⟩,
 ⟨some 38, none, .mov (.tmp 37)⟩,
 ⟨some 39, (some (38, true)), .fad (.tmp 3) 1⟩,
 ⟨some 40, (some (38, true)), .ld1 (.tmp 39)⟩,
 ⟨some 41, (some (38, true)), .bin .rem (.tmp 40) (.const (.int .i64 2))⟩,
 ⟨some 42, (some (38, true)), .bin .eql (.tmp 41) (.const (.int .i64 1))⟩,
 ⟨some 43, none, .pick (.tmp 38) (.tmp 42) (.const (.bool false))⟩,
 ⟨some 44, none, .mov (.tmp 43)⟩,
 ⟨some 45, (some (44, true)), .fad (.tmp 5) 0⟩,
 ⟨some 46, (some (44, true)), .ld1 (.tmp 45)⟩,
 ⟨some 47, (some (44, true)), .bin .eql (.tmp 46) (.const (.int .i64 14))⟩,
 ⟨some 48, none, .pick (.tmp 44) (.tmp 47) (.const (.bool false))⟩,
 ⟨some 34, none, .mov (.tmp 48)⟩])
 (.cond (.tmp 34)
 (.seq (.ops [⟨some 4, none, .mov (.const (.int .i64 6))⟩])
 .ret)
 (.seq (.ops [⟨some 50, none, .fad (.tmp 5) 0⟩,
 ⟨some 51, none, .ld1 (.tmp 50)⟩,
 ⟨some 52, none, .call (.func 151) [(.tmp 51)]⟩,
 ⟨some 53, none, .mov (.tmp 52)⟩,
 ⟨some 54, (some (53, true)), .fad (.tmp 3) 1⟩,
 ⟨some 55, (some (53, true)), .ld1 (.tmp 54)⟩,
 ⟨some 56, (some (53, true)), .bin .rem (.tmp 55) (.const (.int .i64 2))⟩,
 ⟨some 57, (some (53, true)), .bin .eql (.tmp 56) (.const (.int .i64 1))⟩,
 ⟨some 58, none, .pick (.tmp 53) (.tmp 57) (.const (.bool false))⟩,
 ⟨some 49, none, .mov (.tmp 58)⟩])
 (.cond (.tmp 49)
 (.seq (.ops [⟨some 4, none, .mov (.const (.int .i64 0))⟩])
 .ret)
 .skip)))))))
 (.seq (.ops [⟨some 59, none, .fad (.tmp 6) 2⟩,
 ⟨some 60, none, .ld1 (.tmp 59)⟩,
 ⟨some 4, none, .mov (.tmp 60)⟩])
 .ret))))))⟩
theorem ok150 : compF Tryz.prog Tryz.f150 = some c150 := by kernel_rfl
def c151 : CF := ⟨10, [.tmp 2],
 (.seq (.ops [⟨some 2, none, .mov (.const (.bool false))⟩])
 (.seq (.seq (.ops [⟨some 3, none, .mov (.tmp 0)⟩])
 (.block 0 (.seq (.block 3 (.block 2 (.block 1 (.seq (.seq (.seq (.ops [⟨some 5, none, .bin .eql (.tmp 3) (.const (.int .i64 12))⟩,
 ⟨some 4, none, .mov (.tmp 5)⟩])
 (.cond (.tmp 4)
 (.exit 1)
 .skip))
 (.seq (.seq (.ops [⟨some 7, none, .bin .eql (.tmp 3) (.const (.int .i64 13))⟩,
 ⟨some 6, none, .mov (.tmp 7)⟩])
 (.cond (.tmp 6)
 (.exit 2)
 .skip))
 (.seq (.ops [⟨some 9, none, .bin .eql (.tmp 3) (.const (.int .i64 14))⟩,
 ⟨some 8, none, .mov (.tmp 9)⟩])
 (.cond (.tmp 8)
 (.exit 3)
 .skip))))
 (.exit 0)))))
 (.seq (.seq (.ops [⟨some 2, none, .mov (.const (.bool true))⟩])
 .ret)
 (.exit 0)))))
 (.seq (.ops [⟨some 2, none, .mov (.const (.bool false))⟩])
 .ret)))⟩
theorem ok151 : compF Tryz.prog Tryz.f151 = some c151 := by kernel_rfl
def c152 : CF := ⟨9, [.tmp 4],
 (.seq (.ops [⟨some 4, none, .mov (.const (.bool false))⟩])
 (.seq (.ops [⟨some 5, none, .mov (.tmp 0)⟩,
 ⟨some 6, none, .mov (.tmp 1)⟩,
 ⟨some 7, none, .call (.func 193) [(.tmp 5), (.tmp 6)]⟩,
 ⟨some 8, none, .bin .geq (.tmp 7) (.const (.int .i64 0))⟩,
 ⟨some 4, none, .mov (.tmp 8)⟩])
 .ret))⟩
theorem ok152 : compF Tryz.prog Tryz.f152 = some c152 := by kernel_rfl
def c153 : CF := ⟨98, [.tmp 6],
 (.seq (.ops [⟨some 6, none, .mov (.const (.bool false))⟩])
 (.seq (.ops [⟨some 11, none, .mov (.tmp 0)⟩,
 ⟨some 12, none, .nilck (.tmp 11)⟩,
 ⟨some 13, none, .fad (.tmp 12) 1⟩,
 ⟨some 14, none, .ld1 (.tmp 13)⟩,
 ⟨some 15, none, .mov (.tmp 1)⟩,
 ⟨some 16, none, .iad 3 (.tmp 14) (.tmp 15)⟩,
 ⟨some 17, none, .fad (.tmp 16) 0⟩,
 ⟨some 18, none, .ld1 (.tmp 17)⟩,
 ⟨some 7, none, .mov (.tmp 18)⟩])
 (.seq (.ops [⟨some 19, none, .mov (.tmp 2)⟩,
 ⟨some 8, none, .mov (.tmp 19)⟩])
 (.seq (.block 0 (.loop (.seq (.seq (.ops [⟨some 20, none, .mov (.tmp 8)⟩,
 ⟨some 21, none, .bin .geq (.tmp 20) (.const (.int .i64 0))⟩,
 ⟨some 22, none, .mov (.tmp 21)⟩,
 ⟨some 23, (some (22, true)), .mov (.tmp 0)⟩,
 ⟨some 24, (some (22, true)), .nilck (.tmp 23)⟩,
 ⟨some 25, (some (22, true)), .fad (.tmp 24) 1⟩,
 ⟨some 26, (some (22, true)), .ld1 (.tmp 25)⟩,
 ⟨some 27, (some (22, true)), .mov (.tmp 8)⟩,
 ⟨some 28, (some (22, true)), .iad 3 (.tmp 26) (.tmp 27)⟩,
 ⟨some 29, (some (22, true)), .fad (.tmp 28) 0⟩,
 ⟨some 30, (some (22, true)), .ld1 (.tmp 29)⟩,
 ⟨some 31, (some (22, true)), .mov (.tmp 7)⟩,
 ⟨some 32, (some (22, true)), .bin .neq (.tmp 30) (.tmp 31)⟩,
 ⟨some 33, none, .pick (.tmp 22) (.tmp 32) (.const (.bool false))⟩])
 (.cond (.tmp 33)
 .skip
 (.exit 0)))
 (.block 1 (.ops [⟨some 34, none, .mov (.tmp 0)⟩,
 ⟨some 35, none, .nilck (.tmp 34)⟩,
 ⟨some 36, none, .fad (.tmp 35) 1⟩,
 ⟨some 37, none, .ld1 (.tmp 36)⟩,
 ⟨some 38, none, .mov (.tmp 8)⟩,
 ⟨some 39, none, .iad 3 (.tmp 37) (.tmp 38)⟩,
 ⟨some 40, none, .fad (.tmp 39) 0⟩,
 ⟨some 41, none, .ld1 (.tmp 40)⟩,
 ⟨some 8, none, .mov (.tmp 41)⟩])))))
 (.seq (.seq (.ops [⟨some 42, none, .mov (.tmp 8)⟩,
 ⟨some 43, none, .bin .lss (.tmp 42) (.const (.int .i64 0))⟩,
 ⟨some 44, none, .mov (.tmp 43)⟩,
 ⟨some 45, (some (44, false)), .mov (.tmp 8)⟩,
 ⟨some 46, (some (44, false)), .mov (.tmp 1)⟩,
 ⟨some 47, (some (44, false)), .bin .eql (.tmp 45) (.tmp 46)⟩,
 ⟨some 48, none, .pick (.tmp 44) (.const (.bool true)) (.tmp 47)⟩])
 (.cond (.tmp 48)
 (.seq (.ops [⟨some 6, none, .mov (.const (.bool false))⟩])
 .ret)
 .skip))
 (.seq (.draw [⟨some 49, none, .mov (.tmp 0)⟩,
 ⟨some 50, none, .nilck (.tmp 49)⟩,
 ⟨some 51, none, .fad (.tmp 50) 0⟩,
 ⟨some 52, none, .ld1 (.tmp 51)⟩,
 ⟨some 53, none, .mov (.tmp 7)⟩,
 ⟨some 54, none, .iad 7 (.tmp 52) (.tmp 53)⟩,
 ⟨some 55, none, .ld 7 (.tmp 54)⟩,
 ⟨some 56, none, .mov (.tmp 0)⟩,
 ⟨some 57, none, .nilck (.tmp 56)⟩,
 ⟨some 58, none, .fad (.tmp 57) 1⟩,
 ⟨some 59, none, .ld1 (.tmp 58)⟩,
 ⟨some 60, none, .mov (.tmp 8)⟩,
 ⟨some 61, none, .iad 3 (.tmp 59) (.tmp 60)⟩,
 ⟨some 62, none, .fad (.tmp 61) 1⟩,
 ⟨some 63, none, .ld1 (.tmp 62)⟩,
 ⟨some 9, none, .newz [(.int .i64 0), (.int .i64 0), (.int .i64 0), (.string ⟨#[]⟩), (.int .i64 0), (.int .i64 0), (.int .i64 0)]⟩,
 ⟨none, none, .st 7 (.tmp 9) (.tmp 55)⟩,
 ⟨some 10, none, .mov (.tmp 63)⟩] [(0, 4), (1, 4), (2, 4), (3, 4), (0, 7), (1, 7), (2, 7), (3, 7), (4, 7), (5, 7), (6, 7), (0, 8), (1, 8), (2, 8), (3, 8), (4, 8), (5, 8), (6, 8), (0, 9), (1, 9), (2, 9), (3, 9), (4, 9), (5, 9), (6, 9), (0, 10), (1, 10), (2, 10), (3, 10), (4, 10), (5, 10), (6, 10), (0, 11), (1, 11), (2, 11), (3, 11), (4, 11), (5, 11), (6, 11), (7, 11), (8, 11), (9, 11), (10, 11), (0, 12), (1, 12), (2, 12), (3, 12), (4, 12), (5, 12), (6, 12), (0, 13), (1, 13), (2, 13), (3, 13), (4, 13), (5, 13), (6, 13), (0, 14), (1, 14), (2, 14), (3, 14), (4, 14), (5, 14), (6, 14), (0, 15), (1, 15), (2, 15), (3, 15), (4, 15), (5, 15), (6, 15), (7, 15), (8, 15), (9, 15), (10, 15), (11, 15), (12, 15), (13, 15), (14, 15), (7, 16), (8, 16), (9, 16), (10, 16), (11, 16), (12, 16), (13, 16), (14, 16)])
 (.seq (.block 2 (.seq (.ops [⟨some 65, none, .mov (.tmp 10)⟩,
 ⟨some 66, none, .fad (.tmp 9) 1⟩,
 ⟨some 67, none, .ld1 (.tmp 66)⟩,
 ⟨some 68, none, .bin .sub (.tmp 67) (.const (.int .i64 1))⟩,
 ⟨some 69, none, .bin .eql (.tmp 65) (.tmp 68)⟩,
 ⟨some 64, none, .mov (.tmp 69)⟩])
 (.cond (.tmp 64)
 (.seq (.ops [⟨some 6, none, .mov (.const (.bool true))⟩])
 .ret)
 (.seq (.ops [⟨some 71, none, .fad (.tmp 9) 0⟩,
 ⟨some 72, none, .ld1 (.tmp 71)⟩,
 ⟨some 73, none, .bin .eql (.tmp 72) (.const (.int .i64 14))⟩,
 ⟨some 70, none, .mov (.tmp 73)⟩])
 (.cond (.tmp 70)
 (.seq (.ops [⟨some 74, none, .mov (.tmp 10)⟩,
 ⟨some 75, none, .bin .rem (.tmp 74) (.const (.int .i64 2))⟩,
 ⟨some 76, none, .bin .eql (.tmp 75) (.const (.int .i64 1))⟩,
 ⟨some 6, none, .mov (.tmp 76)⟩])
 .ret)
 .skip)))))
 (.seq (.ops [⟨some 77, none, .fad (.tmp 9) 0⟩,
 ⟨some 78, none, .ld1 (.tmp 77)⟩,
 ⟨some 79, none, .bin .eql (.tmp 78) (.const (.int .i64 13))⟩,
 ⟨some 80, none, .mov (.tmp 79)⟩,
 ⟨some 81, (some (80, true)), .mov (.tmp 10)⟩,
 ⟨some 82, (some (80, true)), .bin .rem (.tmp 81) (.const (.int .i64 2))⟩,
 ⟨some 83, (some (80, true)), .bin .eql (.tmp 82) (.const (.int .i64 1))⟩,
 ⟨some 84, none, .pick (.tmp 80) (.tmp 83) (.const (.bool false))⟩,
 ⟨some 85, none, .mov (.tmp 84)⟩,
 ⟨some 86, (some (85, true)), .mov (.tmp 10)⟩,
 ⟨some 87, (some (85, true)), .mov (.tmp 0)⟩,
 ⟨some 88, (some (85, true)), .nilck (.tmp 87)⟩,
 ⟨some 89, (some (85, true)), .fad (.tmp 88) 1⟩,
 ⟨some 90, (some (85, true)), .ld1 (.tmp 89)⟩,
 ⟨some 91, (some (85, true)), .mov (.tmp 1)⟩,
 ⟨some 92, (some (85, true)), .iad 3 (.tmp 90) (.tmp 91)⟩,
 ⟨some 93, (some (85, true)), .fad (.tmp 92) 1⟩,
 ⟨some 94, (some (85, true)), .ld1 (.tmp 93)⟩,
 ⟨some 95, (some (85, true)), .bin .add (.tmp 94) (.const (.int .i64 1))⟩,
 ⟨some 96, (some (85, true)), .bin .gtr (.tmp 86) (.tmp 95)⟩,
 ⟨some 97, none, .pick (.tmp 85) (.tmp 96) (.const (.bool false))⟩,
 ⟨some 6, none, .mov (.tmp 97)⟩])
 .ret))))))))⟩
theorem ok153 : compF Tryz.prog Tryz.f153 = some c153 := by kernel_rfl
def c154 : CF := ⟨47, [.tmp 6],
 (.seq (.ops [⟨some 6, none, .mov (.const (.bool false))⟩])
 (.seq (.seq (.ops [⟨some 9, none, .mov (.tmp 0)⟩,
 ⟨some 10, none, .nilck (.tmp 9)⟩,
 ⟨some 11, none, .fad (.tmp 10) 0⟩,
 ⟨some 12, none, .ld1 (.tmp 11)⟩,
 ⟨some 13, none, .lnl (.tmp 12)⟩,
 ⟨some 14, none, .mov (.const (.int .i64 0))⟩])
 (.block 0 (.loop (.seq (.ops [⟨some 15, none, .bin .lss (.tmp 14) (.tmp 13)⟩])
 (.seq (.cond (.tmp 15)
 .skip
 (.exit 0))
 (.seq (.block 1 (.seq (.ops [⟨some 16, none, .mov (.tmp 14)⟩,
 ⟨some 17, none, .iad 7 (.tmp 12) (.tmp 14)⟩,
 ⟨some 18, none, .ld 7 (.tmp 17)⟩,
 ⟨some 8, none, .newz [(.int .i64 0), (.int .i64 0), (.int .i64 0), (.string ⟨#[]⟩), (.int .i64 0), (.int .i64 0), (.int .i64 0)]⟩,
 ⟨some 7, none, .mov (.tmp 16)⟩,
 ⟨none, none, .st 7 (.tmp 8) (.tmp 18)⟩])
 (.seq (.draw [⟨some 19, none, .mov (.tmp 7)⟩,
 ⟨some 20, none, .mov (.tmp 1)⟩,
 ⟨some 21, none, .bin .gtr (.tmp 19) (.tmp 20)⟩,
 ⟨some 22, none, .mov (.tmp 21)⟩,
 ⟨some 23, (some (22, true)), .fad (.tmp 8) 0⟩,
 ⟨some 24, (some (22, true)), .ld1 (.tmp 23)⟩,
 ⟨some 25, (some (22, true)), .bin .eql (.tmp 24) (.const (.int .i64 9))⟩,
 ⟨some 26, none, .pick (.tmp 22) (.tmp 25) (.const (.bool false))⟩,
 ⟨some 27, none, .mov (.tmp 26)⟩,
 ⟨some 28, (some (27, true)), .fad (.tmp 8) 2⟩,
 ⟨some 29, (some (27, true)), .ld1 (.tmp 28)⟩,
 ⟨some 30, (some (27, true)), .mov (.tmp 0)⟩,
 ⟨some 31, (some (27, true)), .nilck (.tmp 30)⟩,
 ⟨some 32, (some (27, true)), .fad (.tmp 31) 0⟩,
 ⟨some 33, (some (27, true)), .ld1 (.tmp 32)⟩,
 ⟨some 34, (some (27, true)), .mov (.tmp 1)⟩,
 ⟨some 35, (some (27, true)), .iad 7 (.tmp 33) (.tmp 34)⟩,
 ⟨some 36, (some (27, true)), .fad (.tmp 35) 2⟩,
 ⟨some 37, (some (27, true)), .ld1 (.tmp 36)⟩,
 ⟨some 38, (some (27, true)), .bin .eql (.tmp 29) (.tmp 37)⟩,
 ⟨some 39, none, .pick (.tmp 27) (.tmp 38) (.const (.bool false))⟩,
 ⟨some 40, none, .mov (.tmp 39)⟩,
 ⟨some 41, (some (40, true)), .mov (.tmp 0)⟩,
 ⟨some 42, (some (40, true)), .mov (.tmp 7)⟩,
 ⟨some 43, (some (40, true)), .mov (.tmp 2)⟩,
 ⟨some 44, (some (40, true)), .call (.func 153) [(.tmp 41), (.tmp 42), (.tmp 43)]⟩,
 ⟨some 45, none, .pick (.tmp 40) (.tmp 44) (.const (.bool false))⟩] [(0, 1), (9, 11), (10, 11), (9, 12), (10, 12), (9, 13), (10, 13), (9, 14), (10, 14), (9, 15), (10, 15), (11, 15), (12, 15), (13, 15), (14, 15), (9, 16), (10, 16), (9, 17), (10, 17), (9, 18), (10, 18), (22, 23), (22, 24), (23, 24)])
 (.cond (.tmp 45)
 (.seq (.ops [⟨some 6, none, .mov (.const (.bool true))⟩])
 .ret)
 .skip))))
 (.ops [⟨some 46, none, .bin .add (.tmp 14) (.const (.int .i64 1))⟩,
 ⟨some 14, none, .mov (.tmp 46)⟩])))))))
 (.seq (.ops [⟨some 6, none, .mov (.const (.bool false))⟩])
 .ret)))⟩
theorem ok154 : compF Tryz.prog Tryz.f154 = some c154 := by kernel_rfl
def c156 : CF := ⟨6, [.tmp 2],
 (.seq (.ops [⟨some 2, none, .mov (.const (.int .i64 0))⟩])
 (.seq (.ops [⟨some 3, none, .mov (.tmp 0)⟩,
 ⟨some 4, none, .bin .mul (.tmp 3) (.const (.int .i64 78913))⟩,
 ⟨some 5, none, .bin .shr (.tmp 4) (.const (.int .u64 18))⟩,
 ⟨some 2, none, .mov (.tmp 5)⟩])
 .ret))⟩
theorem ok156 : compF Tryz.prog Tryz.f156 = some c156 := by kernel_rfl
def c157 : CF := ⟨25, [.tmp 2],
 (.seq (.ops [⟨some 2, none, .mov (.const (.int .i64 0))⟩])
 (.seq (.seq (.ops [⟨some 3, none, .mov (.tmp 0)⟩,
 ⟨some 4, none, .bin .geq (.tmp 3) (.const (.int .u64 4294967296))⟩])
 (.cond (.tmp 4)
 (.seq (.ops [⟨some 5, none, .mov (.tmp 0)⟩,
 ⟨some 6, none, .bin .shr (.tmp 5) (.const (.int .u64 32))⟩,
 ⟨some 0, none, .mov (.tmp 6)⟩])
 (.ops [⟨some 2, none, .mov (.const (.int .i64 32))⟩]))
 .skip))
 (.seq (.seq (.ops [⟨some 7, none, .mov (.tmp 0)⟩,
 ⟨some 8, none, .bin .geq (.tmp 7) (.const (.int .u64 65536))⟩])
 (.cond (.tmp 8)
 (.seq (.ops [⟨some 9, none, .mov (.tmp 0)⟩,
 ⟨some 10, none, .bin .shr (.tmp 9) (.const (.int .u64 16))⟩,
 ⟨some 0, none, .mov (.tmp 10)⟩])
 (.ops [⟨some 11, none, .mov (.tmp 2)⟩,
 ⟨some 12, none, .bin .add (.tmp 11) (.const (.int .i64 16))⟩,
 ⟨some 2, none, .mov (.tmp 12)⟩]))
 .skip))
 (.seq (.seq (.ops [⟨some 13, none, .mov (.tmp 0)⟩,
 ⟨some 14, none, .bin .geq (.tmp 13) (.const (.int .u64 256))⟩])
 (.cond (.tmp 14)
 (.seq (.ops [⟨some 15, none, .mov (.tmp 0)⟩,
 ⟨some 16, none, .bin .shr (.tmp 15) (.const (.int .u64 8))⟩,
 ⟨some 0, none, .mov (.tmp 16)⟩])
 (.ops [⟨some 17, none, .mov (.tmp 2)⟩,
 ⟨some 18, none, .bin .add (.tmp 17) (.const (.int .i64 8))⟩,
 ⟨some 2, none, .mov (.tmp 18)⟩]))
 .skip))
 (.seq (.ops [⟨some 19, none, .mov (.tmp 2)⟩,
 ⟨some 20, none, .mov (.tmp 0)⟩,
 ⟨some 21, none, .cvi .u8 (.tmp 20)⟩,
 ⟨some 22, none, .ids (.const (.string ⟨#[0, 1, 2, 2, 3, 3, 3, 3, 4, 4, 4, 4, 4, 4, 4, 4, 5, 5, 5, 5, 5, 5, 5, 5, 5, 5, 5, 5, 5, 5, 5, 5, 6, 6, 6, 6, 6, 6, 6, 6, 6, 6, 6, 6, 6, 6, 6, 6, 6, 6, 6, 6, 6, 6, 6, 6, 6, 6, 6, 6, 6, 6, 6, 6, 7, 7, 7, 7, 7, 7, 7, 7, 7, 7, 7, 7, 7, 7, 7, 7, 7, 7, 7, 7, 7, 7, 7, 7, 7, 7, 7, 7, 7, 7, 7, 7, 7, 7, 7, 7, 7, 7, 7, 7, 7, 7, 7, 7, 7, 7, 7, 7, 7, 7, 7, 7, 7, 7, 7, 7, 7, 7, 7, 7, 7, 7, 7, 7, 8, 8, 8, 8, 8, 8, 8, 8, 8, 8, 8, 8, 8, 8, 8, 8, 8, 8, 8, 8, 8, 8, 8, 8, 8, 8, 8, 8, 8, 8, 8, 8, 8, 8, 8, 8, 8, 8, 8, 8, 8, 8, 8, 8, 8, 8, 8, 8, 8, 8, 8, 8, 8, 8, 8, 8, 8, 8, 8, 8, 8, 8, 8, 8, 8, 8, 8, 8, 8, 8, 8, 8, 8, 8, 8, 8, 8, 8, 8, 8, 8, 8, 8, 8, 8, 8, 8, 8, 8, 8, 8, 8, 8, 8, 8, 8, 8, 8, 8, 8, 8, 8, 8, 8, 8, 8, 8, 8, 8, 8, 8, 8, 8, 8, 8, 8, 8, 8, 8, 8, 8, 8, 8, 8, 8, 8, 8, 8]⟩)) (.tmp 21)⟩,
 ⟨some 23, none, .cvi .i64 (.tmp 22)⟩,
 ⟨some 24, none, .bin .add (.tmp 19) (.tmp 23)⟩,
 ⟨some 2, none, .mov (.tmp 24)⟩])
 .ret)))))⟩
theorem ok157 : compF Tryz.prog Tryz.f157 = some c157 := by kernel_rfl
def c158 : CF := ⟨4, [.tmp 2],
 (.seq (.ops [⟨some 2, none, .mov (.const (.int .i64 0))⟩])
 (.seq (.seq (.ops [⟨some 3, none, .mov (.tmp 0)⟩])
 (.cond (.tmp 3)
 (.seq (.ops [⟨some 2, none, .mov (.const (.int .i64 1))⟩])
 .ret)
 .skip))
 (.seq (.ops [⟨some 2, none, .mov (.const (.int .i64 0))⟩])
 .ret)))⟩
theorem ok158 : compF Tryz.prog Tryz.f158 = some c158 := by kernel_rfl
def c159 : CF := ⟨8, [.tmp 2],
 (.seq (.ops [⟨some 2, none, .mov (.const (.bool false))⟩])
 (.seq (.ops [⟨some 3, none, .mov (.tmp 0)⟩,
 ⟨some 4, none, .mov (.tmp 0)⟩,
 ⟨some 5, none, .bin .sub (.tmp 4) (.const (.int .i64 1))⟩,
 ⟨some 6, none, .bin .and (.tmp 3) (.tmp 5)⟩,
 ⟨some 7, none, .bin .eql (.tmp 6) (.const (.int .i64 0))⟩,
 ⟨some 2, none, .mov (.tmp 7)⟩])
 .ret))⟩
theorem ok159 : compF Tryz.prog Tryz.f159 = some c159 := by kernel_rfl
def c160 : CF := ⟨8, [.tmp 2],
 (.seq (.ops [⟨some 2, none, .mov (.const (.int .i64 0))⟩])
 (.seq (.cond (.const (.bool false))
 (.seq (.ops [⟨some 3, none, .mov (.tmp 0)⟩,
 ⟨some 4, none, .cvi .u32 (.tmp 3)⟩,
 ⟨some 5, none, .call (.func 194) [(.tmp 4)]⟩,
 ⟨some 2, none, .mov (.tmp 5)⟩])
 .ret)
 .skip)
 (.seq (.ops [⟨some 6, none, .mov (.tmp 0)⟩,
 ⟨some 7, none, .call (.func 195) [(.tmp 6)]⟩,
 ⟨some 2, none, .mov (.tmp 7)⟩])
 .ret)))⟩
theorem ok160 : compF Tryz.prog Tryz.f160 = some c160 := by kernel_rfl
def c161 : CF := ⟨37, [.tmp 4],
 (.seq (.ops [⟨some 4, none, .mov (.const (.string ⟨#[]⟩))⟩])
 (.seq (.seq (.ops [⟨some 7, none, .mov (.tmp 0)⟩,
 ⟨some 8, none, .bin .eql (.tmp 7) (.const (.string ⟨#[]⟩))⟩,
 ⟨some 9, none, .mov (.tmp 8)⟩,
 ⟨some 10, (some (9, false)), .mov (.tmp 1)⟩,
 ⟨some 11, (some (9, false)), .bin .eql (.tmp 10) (.const (.string ⟨#[]⟩))⟩,
 ⟨some 12, none, .pick (.tmp 9) (.const (.bool true)) (.tmp 11)⟩])
 (.cond (.tmp 12)
 (.seq (.ops [⟨some 13, none, .mov (.tmp 0)⟩,
 ⟨some 4, none, .mov (.tmp 13)⟩])
 .ret)
 .skip))
 (.seq (.seq (.ops [⟨some 14, none, .mov (.tmp 1)⟩,
 ⟨some 15, none, .lns (.tmp 14)⟩,
 ⟨some 16, none, .bin .eql (.tmp 15) (.const (.int .i64 1))⟩,
 ⟨some 17, none, .mov (.tmp 16)⟩,
 ⟨some 18, (some (17, true)), .mov (.tmp 1)⟩,
 ⟨some 19, (some (17, true)), .ids (.tmp 18) (.const (.int .i64 0))⟩,
 ⟨some 20, (some (17, true)), .bin .lss (.tmp 19) (.const (.int .u8 128))⟩,
 ⟨some 21, none, .pick (.tmp 17) (.tmp 20) (.const (.bool false))⟩])
 (.cond (.tmp 21)
 (.seq (.ops [⟨some 22, none, .mov (.tmp 0)⟩,
 ⟨some 23, none, .mov (.tmp 1)⟩,
 ⟨some 24, none, .ids (.tmp 23) (.const (.int .i64 0))⟩,
 ⟨some 25, none, .call (.func 196) [(.tmp 22), (.tmp 24)]⟩,
 ⟨some 4, none, .mov (.tmp 25)⟩])
 .ret)
 .skip))
 (.seq (.seq (.ops [⟨some 27, none, .mov (.tmp 1)⟩,
 ⟨some 28, none, .call (.func 197) [(.tmp 27)]⟩,
 ⟨some 26, none, .mov (.tmp 28)⟩,
 ⟨some 29, none, .ext (.tmp 26) 0⟩,
 ⟨some 30, none, .ext (.tmp 26) 1⟩,
 ⟨some 5, none, .newz [(.bool false), (.bool false), (.bool false), (.bool false), (.bool false), (.bool false), (.bool false), (.bool false), (.bool false), (.bool false), (.bool false), (.bool false), (.bool false), (.bool false), (.bool false), (.bool false), (.bool false), (.bool false), (.bool false), (.bool false), (.bool false), (.bool false), (.bool false), (.bool false), (.bool false), (.bool false), (.bool false), (.bool false), (.bool false), (.bool false), (.bool false), (.bool false), (.bool false), (.bool false), (.bool false), (.bool false), (.bool false), (.bool false), (.bool false), (.bool false), (.bool false), (.bool false), (.bool false), (.bool false), (.bool false), (.bool false), (.bool false), (.bool false), (.bool false), (.bool false), (.bool false), (.bool false), (.bool false), (.bool false), (.bool false), (.bool false), (.bool false), (.bool false), (.bool false), (.bool false), (.bool false), (.bool false), (.bool false), (.bool false), (.bool false), (.bool false), (.bool false), (.bool false), (.bool false), (.bool false), (.bool false), (.bool false), (.bool false), (.bool false), (.bool false), (.bool false), (.bool false), (.bool false), (.bool false), (.bool false), (.bool false), (.bool false), (.bool false), (.bool false), (.bool false), (.bool false), (.bool false), (.bool false), (.bool false), (.bool false), (.bool false), (.bool false), (.bool false), (.bool false), (.bool false), (.bool false), (.bool false), (.bool false), (.bool false), (.bool false), (.bool false), (.bool false), (.bool false), (.bool false), (.bool false), (.bool false), (.bool false), (.bool false), (.bool false), (.bool false), (.bool false), (.bool false), (.bool false), (.bool false), (.bool false), (.bool false), (.bool false), (.bool false), (.bool false), (.bool false), (.bool false), (.bool false), (.bool false), (.bool false), (.bool false), (.bool false), (.bool false), (.bool false), (.bool false), (.bool false), (.bool false), (.bool false), (.bool false), (.bool false), (.bool false), (.bool false), (.bool false), (.bool false), (.bool false), (.bool false), (.bool false), (.bool false), (.bool false), (.bool false), (.bool false), (.bool false), (.bool false), (.bool false), (.bool false), (.bool false), (.bool false), (.bool false), (.bool false), (.bool false), (.bool false), (.bool false), (.bool false), (.bool false), (.bool false), (.bool false), (.bool false), (.bool false), (.bool false), (.bool false), (.bool false), (.bool false), (.bool false), (.bool false), (.bool false), (.bool false), (.bool false), (.bool false), (.bool false), (.bool false), (.bool false), (.bool false), (.bool false), (.bool false), (.bool false), (.bool false), (.bool false), (.bool false), (.bool false), (.bool false), (.bool false), (.bool false), (.bool false), (.bool false), (.bool false), (.bool false), (.bool false), (.bool false), (.bool false), (.bool false), (.bool false), (.bool false), (.bool false), (.bool false), (.bool false), (.bool false), (.bool false), (.bool false), (.bool false), (.bool false), (.bool false), (.bool false), (.bool false), (.bool false), (.bool false), (.bool false), (.bool false), (.bool false), (.bool false), (.bool false), (.bool false), (.bool false), (.bool false), (.bool false), (.bool false), (.bool false), (.bool false), (.bool false), (.bool false), (.bool false), (.bool false), (.bool false), (.bool false), (.bool false), (.bool false), (.bool false), (.bool false), (.bool false), (.bool false), (.bool false), (.bool false), (.bool false), (.bool false), (.bool false), (.bool false), (.bool false), (.bool false), (.bool false), (.bool false), (.bool false), (.bool false), (.bool false), (.bool false), (.bool false), (.bool false), (.bool false), (.bool false), (.bool false), (.bool false), (.bool false), (.bool false), (.bool false)]⟩,
 ⟨none, none, .st 256 (.tmp 5) (.tmp 29)⟩,
 ⟨some 6, none, .mov (.tmp 30)⟩])
 (.seq (.ops [⟨some 31, none, .mov (.tmp 6)⟩])
 (.cond (.tmp 31)
 (.seq (.ops [⟨some 32, none, .mov (.tmp 0)⟩,
 ⟨some 33, none, .call (.func 198) [(.tmp 32), (.tmp 5)]⟩,
 ⟨some 4, none, .mov (.tmp 33)⟩])
 .ret)
 .skip)))
 (.seq (.ops [⟨some 34, none, .mov (.tmp 0)⟩,
 ⟨some 35, none, .mov (.tmp 1)⟩,
 ⟨some 36, none, .call (.func 199) [(.tmp 34), (.tmp 35)]⟩,
 ⟨some 4, none, .mov (.tmp 36)⟩])
 .ret)))))⟩
theorem ok161 : compF Tryz.prog Tryz.f161 = some c161 := by kernel_rfl
def c162 : CF := ⟨8, [.tmp 4],
 (.seq (.ops [⟨some 4, none, .mov (.const (.string ⟨#[]⟩))⟩])
 (.seq (.ops [⟨some 5, none, .mov (.tmp 0)⟩,
 ⟨some 6, none, .mov (.tmp 1)⟩,
 ⟨some 7, none, .call (.func 200) [(.tmp 5), (.tmp 6)]⟩,
 ⟨some 4, none, .mov (.tmp 7)⟩])
 .ret))⟩
theorem ok162 : compF Tryz.prog Tryz.f162 = some c162 := by kernel_rfl
def c163 : CF := ⟨9, [.tmp 4],
 (.seq (.ops [⟨some 4, none, .mov (.const (.bool false))⟩])
 (.seq (.ops [⟨some 5, none, .mov (.tmp 0)⟩,
 ⟨some 6, none, .mov (.tmp 1)⟩,
 ⟨some 7, none, .call (.func 201) [(.tmp 5), (.tmp 6)]⟩,
 ⟨some 8, none, .bin .geq (.tmp 7) (.const (.int .i64 0))⟩,
 ⟨some 4, none, .mov (.tmp 8)⟩])
 .ret))⟩
theorem ok163 : compF Tryz.prog Tryz.f163 = some c163 := by kernel_rfl
def c164 : CF := ⟨8, [.tmp 4],
 (.seq (.ops [⟨some 4, none, .mov (.const (.bool false))⟩])
 (.seq (.ops [⟨some 5, none, .mov (.tmp 0)⟩,
 ⟨some 6, none, .mov (.tmp 1)⟩,
 ⟨some 7, none, .call (.func 202) [(.tmp 5), (.tmp 6)]⟩,
 ⟨some 4, none, .mov (.tmp 7)⟩])
 .ret))⟩
theorem ok164 : compF Tryz.prog Tryz.f164 = some c164 := by kernel_rfl
def c165 : CF := ⟨26, [.tmp 2, .tmp 3],
 (.seq (.ops [⟨some 2, none, .mov (.const (.slice none 0 0))⟩,
 ⟨some 3, none, .mov (.const (.int .i64 0))⟩])
 (.seq (.seq (.ops [⟨some 10, none, .mov (.tmp 0)⟩,
 ⟨some 11, none, .call (.func 203) [(.tmp 10)]⟩,
 ⟨some 9, none, .mov (.tmp 11)⟩,
 ⟨some 12, none, .ext (.tmp 9) 0⟩,
 ⟨some 13, none, .ext (.tmp 9) 1⟩,
 ⟨some 4, none, .mov (.tmp 12)⟩,
 ⟨some 5, none, .mov (.tmp 13)⟩])
 (.seq (.ops [⟨some 14, none, .mov (.tmp 5)⟩,
 ⟨some 15, none, .bin .neq (.tmp 14) (.const (.int .i64 0))⟩])
 (.cond (.tmp 15)
 (.seq (.ops [⟨some 16, none, .mov (.tmp 5)⟩,
 ⟨some 2, none, .mov (.const (.slice none 0 0))⟩,
 ⟨some 3, none, .mov (.tmp 16)⟩])
 .ret)
 .skip)))
 (.seq (.ops [⟨some 6, none, .newz [(.slice none 0 0)]⟩])
 (.seq (.seq (.ops [⟨some 17, none, .mov (.tmp 0)⟩,
 ⟨some 18, none, .call (.func 204) [(.tmp 17)]⟩])
 (.block 0 (.rangeF (.tmp 18) [19, 20]
 (.ops [⟨some 8, none, .mov (.tmp 20)⟩])
 (.block 1 (.ops [⟨some 21, none, .ld1 (.tmp 6)⟩,
 ⟨some 22, none, .mov (.tmp 8)⟩,
 ⟨some 23, none, .lits [(.int .i32 0)] 1 [(0, 1, (.tmp 22))]⟩,
 ⟨some 24, none, .app 1 4 none (.tmp 21) (.tmp 23)⟩,
 ⟨none, none, .st 1 (.tmp 6) (.tmp 24)⟩])))))
 (.seq (.ops [⟨some 25, none, .ld1 (.tmp 6)⟩,
 ⟨some 2, none, .mov (.tmp 25)⟩,
 ⟨some 3, none, .mov (.const (.int .i64 0))⟩])
 .ret)))))⟩
theorem ok165 : compF Tryz.prog Tryz.f165 = some c165 := by kernel_rfl
def c166 : CF := ⟨42, [.tmp 2, .tmp 3],
 (.seq (.ops [⟨some 2, none, .mov (.const (.int .i64 0))⟩,
 ⟨some 3, none, .mov (.const (.int .i64 0))⟩])
 (.seq (.block 0 (.seq (.ops [⟨some 7, none, .mov (.tmp 0)⟩,
 ⟨some 8, none, .call (.func 205) [(.tmp 7)]⟩,
 ⟨some 9, none, .un .not (.tmp 8)⟩,
 ⟨some 6, none, .mov (.tmp 9)⟩])
 (.cond (.tmp 6)
 (.seq (.ops [⟨some 2, none, .mov (.const (.int .i64 0))⟩,
 ⟨some 3, none, .mov (.const (.int .i64 7))⟩])
 .ret)
 (.seq (.ops [⟨some 11, none, .mov (.tmp 0)⟩,
 ⟨some 12, none, .bin .geq (.tmp 11) (.const (.int .i32 48))⟩,
 ⟨some 13, none, .mov (.tmp 12)⟩,
 ⟨some 14, (some (13, true)), .mov (.tmp 0)⟩,
 ⟨some 15, (some (13, true)), .bin .leq (.tmp 14) (.const (.int .i32 57))⟩,
 ⟨some 16, none, .pick (.tmp 13) (.tmp 15) (.const (.bool false))⟩,
 ⟨some 10, none, .mov (.tmp 16)⟩])
 (.cond (.tmp 10)
 (.seq (.ops [⟨some 2, none, .mov (.const (.int .i64 7))⟩,
 ⟨some 3, none, .mov (.const (.int .i64 0))⟩])
 .ret)
 (.seq (.seq (.ops [⟨some 18, none, .mov (.tmp 0)⟩,
 ⟨some 19, none, .bin .geq (.tmp 18) (.const (.int .i32 97))⟩,
 ⟨some 20, none, .mov (.tmp 19)⟩,
 ⟨some 21, (some (20, true)), .mov (.tmp 0)⟩,
 ⟨some 22, (some (20, true)), .bin .leq (.tmp 21) (.const (.int .i32 122))⟩,
 ⟨some 23, none, .pick (.tmp 20) (.tmp 22) (.const (.bool false))⟩,
 ⟨some 17, none, .mov (.tmp 23)⟩])
 (.cond (.tmp 17)
 .skip
 (.seq (.ops [⟨some 24, none, .mov (.tmp 0)⟩,
 ⟨some 25, none, .bin .geq (.tmp 24) (.const (.int .i32 65))⟩,
 ⟨some 26, none, .mov (.tmp 25)⟩,
 ⟨some 27, (some (26, true)), .mov (.tmp 0)⟩,
 ⟨some 28, (some (26, true)), .bin .leq (.tmp 27) (.const (.int .i32 90))⟩,
 ⟨some 29, none, .pick (.tmp 26) (.tmp 28) (.const (.bool false))⟩,
 ⟨some 17, none, .mov (.tmp 29)⟩])
 (.cond (.tmp 17)
 .skip
 (.ops [⟨some 30, none, .mov (.tmp 0)⟩,
 ⟨some 31, none, .bin .gtr (.tmp 30) (.const (.int .i32 160))⟩,
 ⟨some 17, none, .mov (.tmp 31)⟩])))))
 (.cond (.tmp 17)
 (.seq (.ops [⟨some 2, none, .mov (.const (.int .i64 9))⟩,
 ⟨some 3, none, .mov (.const (.int .i64 0))⟩])
 .ret)
 .skip)))))))
 (.seq (.seq (.ops [⟨some 32, none, .call (.func 206) []⟩,
 ⟨some 33, none, .mov (.const (.int .i64 0))⟩])
 (.block 1 (.loop (.seq (.ops [⟨some 34, none, .bin .lss (.tmp 33) (.const (.int .i64 10))⟩])
 (.seq (.cond (.tmp 34)
 .skip
 (.exit 1))
 (.seq (.block 2 (.seq (.ops [⟨some 35, none, .mov (.tmp 33)⟩,
 ⟨some 36, none, .ida1 10 1 (.tmp 32) (.tmp 33)⟩,
 ⟨some 4, none, .mov (.tmp 35)⟩,
 ⟨some 5, none, .mov (.tmp 36)⟩])
 (.seq (.ops [⟨some 37, none, .mov (.tmp 5)⟩,
 ⟨some 38, none, .mov (.tmp 0)⟩,
 ⟨some 39, none, .call (.func 207) [(.tmp 37), (.tmp 38)]⟩])
 (.cond (.tmp 39)
 (.seq (.ops [⟨some 40, none, .mov (.tmp 4)⟩,
 ⟨some 2, none, .mov (.tmp 40)⟩,
 ⟨some 3, none, .mov (.const (.int .i64 0))⟩])
 .ret)
 .skip))))
 (.ops [⟨some 41, none, .bin .add (.tmp 33) (.const (.int .i64 1))⟩,
 ⟨some 33, none, .mov (.tmp 41)⟩])))))))
 (.seq (.ops [⟨some 2, none, .mov (.const (.int .i64 10))⟩,
 ⟨some 3, none, .mov (.const (.int .i64 0))⟩])
 .ret))))⟩
theorem ok166 : compF Tryz.prog Tryz.f166 = some c166 := by kernel_rfl
def c167 : CF := ⟨88, [],
 (.seq (.ops [⟨some 18, none, .ld1 (.tmp 1)⟩,
 ⟨some 19, none, .mov (.tmp 0)⟩,
 ⟨some 20, none, .iad 6 (.tmp 18) (.tmp 19)⟩,
 ⟨some 21, none, .ld 6 (.tmp 20)⟩,
 ⟨some 8, none, .newz [(.int .i64 0), (.int .i64 0), (.int .i64 0), (.string ⟨#[]⟩), (.int .i32 0), (.int .i32 0)]⟩,
 ⟨none, none, .st 6 (.tmp 8) (.tmp 21)⟩])
 (.seq (.ops [⟨some 22, none, .ld1 (.tmp 1)⟩,
 ⟨some 23, none, .ld1 (.tmp 2)⟩,
 ⟨some 24, none, .mov (.tmp 0)⟩,
 ⟨some 25, none, .call (.func 124) [(.tmp 22), (.tmp 23), (.tmp 24)]⟩,
 ⟨some 9, none, .mov (.tmp 25)⟩])
 (.seq (.ops [⟨some 10, none, .mov (.const (.slice none 0 0))⟩])
 (.seq (.seq (.ops [⟨some 26, none, .fad (.tmp 8) 0⟩,
 ⟨some 27, none, .ld1 (.tmp 26)⟩])
 (.block 0 (.seq (.ops [⟨some 29, none, .bin .eql (.tmp 27) (.const (.int .i64 7))⟩,
 ⟨some 28, none, .mov (.tmp 29)⟩])
 (.cond (.tmp 28)
 (.seq (.ops [⟨some 30, none, .fad (.tmp 8) 2⟩,
 ⟨some 31, none, .ld1 (.tmp 30)⟩,
 ⟨some 11, none, .mov (.tmp 31)⟩])
 (.seq (.seq (.ops [⟨some 32, none, .ld1 (.tmp 3)⟩])
 (.cond (.tmp 32)
 (.ops [⟨some 33, none, .ld1 (.tmp 4)⟩,
 ⟨some 34, none, .fad (.tmp 8) 2⟩,
 ⟨some 35, none, .ld1 (.tmp 34)⟩,
 ⟨some 36, none, .call (.func 168) [(.tmp 33), (.tmp 35)]⟩,
 ⟨some 11, none, .mov (.tmp 36)⟩])
 .skip))
 (.ops [⟨some 37, none, .ld1 (.tmp 5)⟩,
 ⟨some 38, none, .mov (.tmp 0)⟩,
 ⟨some 39, none, .mov (.tmp 11)⟩,
 ⟨some 40, none, .call (.tmp 37) [(.tmp 38), (.tmp 39)]⟩])))
 (.seq (.seq (.ops [⟨some 42, none, .bin .eql (.tmp 27) (.const (.int .i64 8))⟩,
 ⟨some 41, none, .mov (.tmp 42)⟩])
 (.cond (.tmp 41)
 .skip
 (.ops [⟨some 43, none, .bin .eql (.tmp 27) (.const (.int .i64 11))⟩,
 ⟨some 41, none, .mov (.tmp 43)⟩])))
 (.cond (.tmp 41)
 (.seq (.ops [⟨some 44, none, .fad (.tmp 8) 2⟩,
 ⟨some 45, none, .ld1 (.tmp 44)⟩,
 ⟨some 46, none, .mov (.const (.int .i64 0))⟩])
 (.block 1 (.loop (.seq (.ops [⟨some 47, none, .bin .lss (.tmp 46) (.tmp 45)⟩])
 (.seq (.cond (.tmp 47)
 .skip
 (.exit 1))
 (.seq (.block 2 (.seq (.ops [⟨some 48, none, .mov (.tmp 46)⟩,
 ⟨some 12, none, .mov (.tmp 48)⟩])
 (.seq (.ops [⟨some 49, none, .ld1 (.tmp 4)⟩,
 ⟨some 50, none, .nilck (.tmp 49)⟩,
 ⟨some 51, none, .fad (.tmp 50) 0⟩,
 ⟨some 52, none, .ld1 (.tmp 51)⟩,
 ⟨some 53, none, .bin .sub (.const (.int .i64 (-1))) (.tmp 52)⟩,
 ⟨some 13, none, .mov (.tmp 53)⟩])
 (.seq (.seq (.ops [⟨some 54, none, .ld1 (.tmp 3)⟩])
 (.cond (.tmp 54)
 (.draw [⟨some 55, none, .ld1 (.tmp 1)⟩,
 ⟨some 56, none, .mov (.tmp 9)⟩,
 ⟨some 57, none, .mov (.tmp 12)⟩,
 ⟨some 58, none, .iad 1 (.tmp 56) (.tmp 57)⟩,
 ⟨some 59, none, .ld1 (.tmp 58)⟩,
 ⟨some 60, none, .iad 6 (.tmp 55) (.tmp 59)⟩,
 ⟨some 61, none, .fad (.tmp 60) 2⟩,
 ⟨some 62, none, .ld1 (.tmp 61)⟩,
 ⟨some 13, none, .mov (.tmp 62)⟩] [(0, 1), (0, 2), (1, 2), (0, 3), (0, 4)])
 .skip))
 (.seq (.ops [⟨some 63, none, .mov (.tmp 10)⟩,
 ⟨some 64, none, .mov (.tmp 13)⟩,
 ⟨some 65, none, .lits [(.int .i64 0)] 1 [(0, 1, (.tmp 64))]⟩,
 ⟨some 66, none, .app 1 8 none (.tmp 63) (.tmp 65)⟩,
 ⟨some 10, none, .mov (.tmp 66)⟩])
 (.ops [⟨some 67, none, .ld1 (.tmp 4)⟩,
 ⟨some 68, none, .mov (.tmp 13)⟩,
 ⟨some 69, none, .call (.func 169) [(.tmp 67), (.tmp 68)]⟩]))))))
 (.ops [⟨some 70, none, .bin .add (.tmp 46) (.const (.int .i64 1))⟩,
 ⟨some 46, none, .mov (.tmp 70)⟩])))))))
 .skip))))))
 (.seq (.seq (.ops [⟨some 71, none, .mov (.tmp 9)⟩,
 ⟨some 72, none, .lnl (.tmp 71)⟩,
 ⟨some 73, none, .mov (.const (.int .i64 0))⟩])
 (.block 3 (.loop (.seq (.ops [⟨some 74, none, .bin .lss (.tmp 73) (.tmp 72)⟩])
 (.seq (.cond (.tmp 74)
 .skip
 (.exit 3))
 (.seq (.block 4 (.seq (.ops [⟨some 75, none, .iad 1 (.tmp 71) (.tmp 73)⟩,
 ⟨some 76, none, .ld1 (.tmp 75)⟩,
 ⟨some 15, none, .mov (.tmp 76)⟩])
 (.ops [⟨some 77, none, .ld1 (.tmp 6)⟩,
 ⟨some 78, none, .mov (.tmp 15)⟩,
 ⟨some 79, none, .call (.tmp 77) [(.tmp 78)]⟩])))
 (.ops [⟨some 80, none, .bin .add (.tmp 73) (.const (.int .i64 1))⟩,
 ⟨some 73, none, .mov (.tmp 80)⟩])))))))
 (.seq (.ops [⟨some 81, none, .mov (.tmp 10)⟩,
 ⟨some 82, none, .call (.func 170) [(.tmp 81)]⟩])
 (.block 5 (.rangeF (.tmp 82) [83, 84]
 (.ops [⟨some 17, none, .mov (.tmp 84)⟩])
 (.block 6 (.ops [⟨some 85, none, .ld1 (.tmp 4)⟩,
 ⟨some 86, none, .mov (.tmp 17)⟩,
 ⟨some 87, none, .call (.func 171) [(.tmp 85), (.tmp 86)]⟩]))))))))))⟩
theorem ok167 : compF Tryz.prog Tryz.f167 = some c167 := by kernel_rfl
def c168 : CF := ⟨27, [.tmp 4],
 (.seq (.ops [⟨some 4, none, .mov (.const (.int .i64 0))⟩])
 (.seq (.ops [⟨some 6, none, .mov (.tmp 0)⟩,
 ⟨some 7, none, .nilck (.tmp 6)⟩,
 ⟨some 8, none, .fad (.tmp 7) 1⟩,
 ⟨some 9, none, .ld1 (.tmp 8)⟩,
 ⟨some 10, none, .mov (.tmp 1)⟩,
 ⟨some 11, none, .lkp (.int .i64) (.slice none 0 0) (.tmp 9) (.tmp 10) false⟩,
 ⟨some 5, none, .mov (.tmp 11)⟩])
 (.seq (.seq (.ops [⟨some 12, none, .mov (.tmp 5)⟩,
 ⟨some 13, none, .lnl (.tmp 12)⟩,
 ⟨some 14, none, .bin .eql (.tmp 13) (.const (.int .i64 0))⟩])
 (.cond (.tmp 14)
 (.seq (.ops [⟨some 4, none, .mov (.const (.int .i64 (-1)))⟩])
 .ret)
 .skip))
 (.seq (.draw [⟨some 15, none, .mov (.tmp 0)⟩,
 ⟨some 16, none, .nilck (.tmp 15)⟩,
 ⟨some 17, none, .fad (.tmp 16) 0⟩,
 ⟨some 18, none, .ld1 (.tmp 17)⟩,
 ⟨some 19, none, .bin .sub (.tmp 18) (.const (.int .i64 1))⟩,
 ⟨some 20, none, .mov (.tmp 5)⟩,
 ⟨some 21, none, .mov (.tmp 5)⟩,
 ⟨some 22, none, .lnl (.tmp 21)⟩,
 ⟨some 23, none, .bin .sub (.tmp 22) (.const (.int .i64 1))⟩,
 ⟨some 24, none, .iad 1 (.tmp 20) (.tmp 23)⟩,
 ⟨some 25, none, .ld1 (.tmp 24)⟩,
 ⟨some 26, none, .bin .sub (.tmp 19) (.tmp 25)⟩,
 ⟨some 4, none, .mov (.tmp 26)⟩] [(0, 5), (1, 5), (2, 5), (3, 5), (4, 5), (0, 6), (1, 6), (2, 6), (3, 6), (4, 6), (5, 6), (0, 7), (1, 7), (2, 7), (3, 7), (4, 7), (5, 7), (0, 8), (1, 8), (2, 8), (3, 8), (4, 8), (5, 8), (0, 9), (1, 9), (2, 9), (3, 9), (4, 9), (0, 10), (1, 10), (2, 10), (3, 10), (4, 10)])
 .ret))))⟩
theorem ok168 : compF Tryz.prog Tryz.f168 = some c168 := by kernel_rfl
def c169 : CF := ⟨28, [],
 (.seq (.draw [⟨some 4, none, .mov (.tmp 0)⟩,
 ⟨some 5, none, .nilck (.tmp 4)⟩,
 ⟨some 6, none, .fad (.tmp 5) 1⟩,
 ⟨some 7, none, .ld1 (.tmp 6)⟩,
 ⟨some 8, none, .mov (.tmp 1)⟩,
 ⟨some 9, none, .mov (.tmp 0)⟩,
 ⟨some 10, none, .nilck (.tmp 9)⟩,
 ⟨some 11, none, .fad (.tmp 10) 1⟩,
 ⟨some 12, none, .ld1 (.tmp 11)⟩,
 ⟨some 13, none, .mov (.tmp 1)⟩,
 ⟨some 14, none, .lkp (.int .i64) (.slice none 0 0) (.tmp 12) (.tmp 13) false⟩,
 ⟨some 15, none, .mov (.tmp 0)⟩,
 ⟨some 16, none, .nilck (.tmp 15)⟩,
 ⟨some 17, none, .fad (.tmp 16) 0⟩,
 ⟨some 18, none, .ld1 (.tmp 17)⟩,
 ⟨some 19, none, .lits [(.int .i64 0)] 1 [(0, 1, (.tmp 18))]⟩,
 ⟨some 20, none, .app 1 8 none (.tmp 14) (.tmp 19)⟩,
 ⟨none, none, .mup (.int .i64) (.tmp 7) (.tmp 8) (.tmp 20)⟩] [(0, 4), (1, 4), (2, 4), (3, 4), (0, 5), (1, 5), (2, 5), (3, 5), (4, 5), (0, 6), (1, 6), (2, 6), (3, 6), (4, 6), (0, 7), (1, 7), (2, 7), (3, 7), (4, 7), (0, 8), (1, 8), (2, 8), (3, 8), (4, 8), (0, 9), (1, 9), (2, 9), (3, 9), (4, 9), (5, 9), (6, 9), (7, 9), (8, 9), (0, 10), (1, 10), (2, 10), (3, 10), (4, 10), (0, 11), (1, 11), (2, 11), (3, 11), (4, 11), (5, 11), (6, 11), (7, 11), (8, 11), (9, 11), (10, 11), (0, 12), (1, 12), (2, 12), (3, 12), (4, 12), (5, 12), (6, 12), (7, 12), (8, 12), (9, 12), (10, 12), (0, 13), (1, 13), (2, 13), (3, 13), (4, 13), (5, 13), (6, 13), (7, 13), (8, 13), (9, 13), (10, 13), (0, 14), (1, 14), (2, 14), (3, 14), (4, 14), (5, 14), (6, 14), (7, 14), (8, 14), (9, 14), (10, 14), (0, 15), (1, 15), (2, 15), (3, 15), (4, 15), (5, 15), (6, 15), (7, 15), (8, 15), (9, 15), (10, 15), (0, 16), (1, 16), (2, 16), (3, 16), (4, 16)])
 (.ops [⟨some 21, none, .mov (.tmp 0)⟩,
 ⟨some 22, none, .nilck (.tmp 21)⟩,
 ⟨some 23, none, .fad (.tmp 22) 0⟩,
 ⟨some 24, none, .ld1 (.tmp 23)⟩,
 ⟨some 25, none, .bin .add (.tmp 24) (.const (.int .i64 1))⟩,
 ⟨some 26, none, .nilck (.tmp 21)⟩,
 ⟨some 27, none, .fad (.tmp 26) 0⟩,
 ⟨none, none, .st 1 (.tmp 27) (.tmp 25)⟩]))⟩
theorem ok169 : compF Tryz.prog Tryz.f169 = some c169 := by kernel_rfl
def c170 : CF := ⟨4, [.tmp 2],
 (.seq (.ops [⟨some 1, none, .box (.tmp 0)⟩,
 ⟨some 2, none, .mov (.const .nilFunc)⟩])
 (.seq (.ops [⟨some 3, none, .fn 208 [] [(.tmp 1)]⟩,
 ⟨some 2, none, .mov (.tmp 3)⟩])
 .ret))⟩
theorem ok170 : compF Tryz.prog Tryz.f170 = some c170 := by kernel_rfl
def c171 : CF := ⟨31, [],
 (.seq (.draw [⟨some 4, none, .mov (.tmp 0)⟩,
 ⟨some 5, none, .nilck (.tmp 4)⟩,
 ⟨some 6, none, .fad (.tmp 5) 1⟩,
 ⟨some 7, none, .ld1 (.tmp 6)⟩,
 ⟨some 8, none, .mov (.tmp 1)⟩,
 ⟨some 9, none, .mov (.tmp 0)⟩,
 ⟨some 10, none, .nilck (.tmp 9)⟩,
 ⟨some 11, none, .fad (.tmp 10) 1⟩,
 ⟨some 12, none, .ld1 (.tmp 11)⟩,
 ⟨some 13, none, .mov (.tmp 1)⟩,
 ⟨some 14, none, .lkp (.int .i64) (.slice none 0 0) (.tmp 12) (.tmp 13) false⟩,
 ⟨some 15, none, .mov (.tmp 0)⟩,
 ⟨some 16, none, .nilck (.tmp 15)⟩,
 ⟨some 17, none, .fad (.tmp 16) 1⟩,
 ⟨some 18, none, .ld1 (.tmp 17)⟩,
 ⟨some 19, none, .mov (.tmp 1)⟩,
 ⟨some 20, none, .lkp (.int .i64) (.slice none 0 0) (.tmp 18) (.tmp 19) false⟩,
 ⟨some 21, none, .lnl (.tmp 20)⟩,
 ⟨some 22, none, .bin .sub (.tmp 21) (.const (.int .i64 1))⟩,
 ⟨some 23, none, .sl 1 (.tmp 14) none (some (.tmp 22)) none⟩,
 ⟨none, none, .mup (.int .i64) (.tmp 7) (.tmp 8) (.tmp 23)⟩] [(0, 4), (1, 4), (2, 4), (3, 4), (0, 5), (1, 5), (2, 5), (3, 5), (4, 5), (0, 6), (1, 6), (2, 6), (3, 6), (4, 6), (0, 7), (1, 7), (2, 7), (3, 7), (4, 7), (0, 8), (1, 8), (2, 8), (3, 8), (4, 8), (0, 9), (1, 9), (2, 9), (3, 9), (4, 9), (5, 9), (6, 9), (7, 9), (8, 9), (0, 10), (1, 10), (2, 10), (3, 10), (4, 10), (0, 11), (1, 11), (2, 11), (3, 11), (4, 11), (5, 11), (6, 11), (7, 11), (8, 11), (9, 11), (10, 11), (0, 12), (1, 12), (2, 12), (3, 12), (4, 12), (5, 12), (6, 12), (7, 12), (8, 12), (9, 12), (10, 12), (0, 13), (1, 13), (2, 13), (3, 13), (4, 13), (5, 13), (6, 13), (7, 13), (8, 13), (9, 13), (10, 13), (0, 14), (1, 14), (2, 14), (3, 14), (4, 14), (5, 14), (6, 14), (7, 14), (8, 14), (9, 14), (10, 14), (0, 15), (1, 15), (2, 15), (3, 15), (4, 15), (5, 15), (6, 15), (7, 15), (8, 15), (9, 15), (10, 15), (11, 15), (12, 15), (13, 15), (14, 15), (0, 16), (1, 16), (2, 16), (3, 16), (4, 16), (5, 16), (6, 16), (7, 16), (8, 16), (9, 16), (10, 16), (0, 17), (1, 17), (2, 17), (3, 17), (4, 17), (5, 17), (6, 17), (7, 17), (8, 17), (9, 17), (10, 17), (0, 18), (1, 18), (2, 18), (3, 18), (4, 18), (5, 18), (6, 18), (7, 18), (8, 18), (9, 18), (10, 18), (0, 19), (1, 19), (2, 19), (3, 19), (4, 19)])
 (.ops [⟨some 24, none, .mov (.tmp 0)⟩,
 ⟨some 25, none, .nilck (.tmp 24)⟩,
 ⟨some 26, none, .fad (.tmp 25) 0⟩,
 ⟨some 27, none, .ld1 (.tmp 26)⟩,
 ⟨some 28, none, .bin .sub (.tmp 27) (.const (.int .i64 1))⟩,
 ⟨some 29, none, .nilck (.tmp 24)⟩,
 ⟨some 30, none, .fad (.tmp 29) 0⟩,
 ⟨none, none, .st 1 (.tmp 30) (.tmp 28)⟩]))⟩
theorem ok171 : compF Tryz.prog Tryz.f171 = some c171 := by kernel_rfl
def c172 : CF := ⟨134, [],
 (.seq (.ops [⟨some 8, none, .mov (.const (.bool true))⟩])
 (.seq (.ops [⟨some 9, none, .mov (.const (.bool true))⟩])
 (.block 0 (.loop (.block 1 (.seq (.ops [⟨some 19, none, .mov (.tmp 2)⟩,
 ⟨some 20, none, .mov (.tmp 1)⟩,
 ⟨some 21, none, .bin .sub (.tmp 19) (.tmp 20)⟩,
 ⟨some 10, none, .mov (.tmp 21)⟩])
 (.seq (.seq (.ops [⟨some 22, none, .mov (.tmp 10)⟩,
 ⟨some 23, none, .bin .leq (.tmp 22) (.const (.int .i64 12))⟩])
 (.cond (.tmp 23)
 (.seq (.ops [⟨some 24, none, .mov (.tmp 0)⟩,
 ⟨some 25, none, .mov (.tmp 1)⟩,
 ⟨some 26, none, .mov (.tmp 2)⟩,
 ⟨some 27, none, .call (.func 209) [(.tmp 24), (.tmp 25), (.tmp 26)]⟩])
 .ret)
 .skip))
 (.seq (.seq (.ops [⟨some 28, none, .mov (.tmp 3)⟩,
 ⟨some 29, none, .bin .eql (.tmp 28) (.const (.int .i64 0))⟩])
 (.cond (.tmp 29)
 (.seq (.ops [⟨some 30, none, .mov (.tmp 0)⟩,
 ⟨some 31, none, .mov (.tmp 1)⟩,
 ⟨some 32, none, .mov (.tmp 2)⟩,
 ⟨some 33, none, .call (.func 210) [(.tmp 30), (.tmp 31), (.tmp 32)]⟩])
 .ret)
 .skip))
 (.seq (.seq (.ops [⟨some 34, none, .mov (.tmp 8)⟩,
 ⟨some 35, none, .un .not (.tmp 34)⟩])
 (.cond (.tmp 35)
 (.seq (.ops [⟨some 36, none, .mov (.tmp 0)⟩,
 ⟨some 37, none, .mov (.tmp 1)⟩,
 ⟨some 38, none, .mov (.tmp 2)⟩,
 ⟨some 39, none, .call (.func 211) [(.tmp 36), (.tmp 37), (.tmp 38)]⟩])
 (.ops [⟨some 40, none, .mov (.tmp 3)⟩,
 ⟨some 41, none, .bin .sub (.tmp 40) (.const (.int .i64 1))⟩,
 ⟨some 3, none, .mov (.tmp 41)⟩]))
 .skip))
 (.seq (.ops [⟨some 43, none, .mov (.tmp 0)⟩,
 ⟨some 44, none, .mov (.tmp 1)⟩,
 ⟨some 45, none, .mov (.tmp 2)⟩,
 ⟨some 46, none, .call (.func 212) [(.tmp 43), (.tmp 44), (.tmp 45)]⟩,
 ⟨some 42, none, .mov (.tmp 46)⟩,
 ⟨some 47, none, .ext (.tmp 42) 0⟩,
 ⟨some 48, none, .ext (.tmp 42) 1⟩,
 ⟨some 11, none, .mov (.tmp 47)⟩,
 ⟨some 12, none, .mov (.tmp 48)⟩])
 (.seq (.seq (.ops [⟨some 49, none, .mov (.tmp 12)⟩,
 ⟨some 50, none, .bin .eql (.tmp 49) (.const (.int .i64 2))⟩])
 (.cond (.tmp 50)
 (.seq (.ops [⟨some 51, none, .mov (.tmp 0)⟩,
 ⟨some 52, none, .mov (.tmp 1)⟩,
 ⟨some 53, none, .mov (.tmp 2)⟩,
 ⟨some 54, none, .call (.func 213) [(.tmp 51), (.tmp 52), (.tmp 53)]⟩])
 (.seq (.ops [⟨some 55, none, .mov (.tmp 2)⟩,
 ⟨some 56, none, .bin .sub (.tmp 55) (.const (.int .i64 1))⟩,
 ⟨some 57, none, .mov (.tmp 11)⟩,
 ⟨some 58, none, .mov (.tmp 1)⟩,
 ⟨some 59, none, .bin .sub (.tmp 57) (.tmp 58)⟩,
 ⟨some 60, none, .bin .sub (.tmp 56) (.tmp 59)⟩,
 ⟨some 11, none, .mov (.tmp 60)⟩])
 (.ops [⟨some 12, none, .mov (.const (.int .i64 1))⟩])))
 .skip))
 (.seq (.seq (.ops [⟨some 61, none, .mov (.tmp 8)⟩,
 ⟨some 62, none, .mov (.tmp 61)⟩,
 ⟨some 63, (some (62, true)), .mov (.tmp 9)⟩,
 ⟨some 64, none, .pick (.tmp 62) (.tmp 63) (.const (.bool false))⟩,
 ⟨some 65, none, .mov (.tmp 64)⟩,
 ⟨some 66, (some (65, true)), .mov (.tmp 12)⟩,
 ⟨some 67, (some (65, true)), .bin .eql (.tmp 66) (.const (.int .i64 1))⟩,
 ⟨some 68, none, .pick (.tmp 65) (.tmp 67) (.const (.bool false))⟩])
 (.cond (.tmp 68)
 (.seq (.ops [⟨some 69, none, .mov (.tmp 0)⟩,
 ⟨some 70, none, .mov (.tmp 1)⟩,
 ⟨some 71, none, .mov (.tmp 2)⟩,
 ⟨some 72, none, .call (.func 214) [(.tmp 69), (.tmp 70), (.tmp 71)]⟩])
 (.cond (.tmp 72)
 .ret
 .skip))
 .skip))
 (.seq (.seq (.draw [⟨some 73, none, .mov (.tmp 1)⟩,
 ⟨some 74, none, .bin .gtr (.tmp 73) (.const (.int .i64 0))⟩,
 ⟨some 75, none, .mov (.tmp 74)⟩,
 ⟨some 76, (some (75, true)), .mov (.tmp 0)⟩,
 ⟨some 77, (some (75, true)), .mov (.tmp 1)⟩,
 ⟨some 78, (some (75, true)), .bin .sub (.tmp 77) (.const (.int .i64 1))⟩,
 ⟨some 79, (some (75, true)), .iad 1 (.tmp 76) (.tmp 78)⟩,
 ⟨some 80, (some (75, true)), .ld1 (.tmp 79)⟩,
 ⟨some 81, (some (75, true)), .mov (.tmp 0)⟩,
 ⟨some 82, (some (75, true)), .mov (.tmp 11)⟩,
 ⟨some 83, (some (75, true)), .iad 1 (.tmp 81) (.tmp 82)⟩,
 ⟨some 84, (some (75, true)), .ld1 (.tmp 83)⟩,
 ⟨some 85, (some (75, true)), .call (.func 215) [(.tmp 80), (.tmp 84)]⟩,
 ⟨some 86, (some (75, true)), .un .not (.tmp 85)⟩,
 ⟨some 87, none, .pick (.tmp 75) (.tmp 86) (.const (.bool false))⟩] [(3, 4), (3, 5), (3, 8), (4, 8), (5, 8), (6, 8), (7, 8), (3, 9), (4, 9), (5, 9), (6, 9), (7, 9), (8, 9), (3, 10), (4, 10), (5, 10), (6, 10), (7, 10), (3, 11), (4, 11), (5, 11), (6, 11), (7, 11)])
 (.cond (.tmp 87)
 (.seq (.ops [⟨some 88, none, .mov (.tmp 0)⟩,
 ⟨some 89, none, .mov (.tmp 1)⟩,
 ⟨some 90, none, .mov (.tmp 2)⟩,
 ⟨some 91, none, .mov (.tmp 11)⟩,
 ⟨some 92, none, .call (.func 216) [(.tmp 88), (.tmp 89), (.tmp 90), (.tmp 91)]⟩,
 ⟨some 13, none, .mov (.tmp 92)⟩])
 (.seq (.ops [⟨some 93, none, .mov (.tmp 13)⟩,
 ⟨some 1, none, .mov (.tmp 93)⟩])
 (.exit 1)))
 .skip))
 (.seq (.ops [⟨some 95, none, .mov (.tmp 0)⟩,
 ⟨some 96, none, .mov (.tmp 1)⟩,
 ⟨some 97, none, .mov (.tmp 2)⟩,
 ⟨some 98, none, .mov (.tmp 11)⟩,
 ⟨some 99, none, .call (.func 217) [(.tmp 95), (.tmp 96), (.tmp 97), (.tmp 98)]⟩,
 ⟨some 94, none, .mov (.tmp 99)⟩,
 ⟨some 100, none, .ext (.tmp 94) 0⟩,
 ⟨some 101, none, .ext (.tmp 94) 1⟩,
 ⟨some 14, none, .mov (.tmp 100)⟩,
 ⟨some 15, none, .mov (.tmp 101)⟩])
 (.seq (.ops [⟨some 102, none, .mov (.tmp 15)⟩,
 ⟨some 9, none, .mov (.tmp 102)⟩])
 (.seq (.ops [⟨some 103, none, .mov (.tmp 14)⟩,
 ⟨some 104, none, .mov (.tmp 1)⟩,
 ⟨some 105, none, .bin .sub (.tmp 103) (.tmp 104)⟩,
 ⟨some 106, none, .mov (.tmp 2)⟩,
 ⟨some 107, none, .mov (.tmp 14)⟩,
 ⟨some 108, none, .bin .sub (.tmp 106) (.tmp 107)⟩,
 ⟨some 16, none, .mov (.tmp 105)⟩,
 ⟨some 17, none, .mov (.tmp 108)⟩])
 (.seq (.ops [⟨some 109, none, .mov (.tmp 10)⟩,
 ⟨some 110, none, .bin .quo (.tmp 109) (.const (.int .i64 8))⟩,
 ⟨some 18, none, .mov (.tmp 110)⟩])
 (.seq (.ops [⟨some 111, none, .mov (.tmp 16)⟩,
 ⟨some 112, none, .mov (.tmp 17)⟩,
 ⟨some 113, none, .bin .lss (.tmp 111) (.tmp 112)⟩])
 (.cond (.tmp 113)
 (.seq (.ops [⟨some 114, none, .mov (.tmp 16)⟩,
 ⟨some 115, none, .mov (.tmp 18)⟩,
 ⟨some 116, none, .bin .geq (.tmp 114) (.tmp 115)⟩,
 ⟨some 8, none, .mov (.tmp 116)⟩])
 (.seq (.ops [⟨some 117, none, .mov (.tmp 0)⟩,
 ⟨some 118, none, .mov (.tmp 1)⟩,
 ⟨some 119, none, .mov (.tmp 14)⟩,
 ⟨some 120, none, .mov (.tmp 3)⟩,
 ⟨some 121, none, .call (.func 172) [(.tmp 117), (.tmp 118), (.tmp 119), (.tmp 120)]⟩])
 (.ops [⟨some 122, none, .mov (.tmp 14)⟩,
 ⟨some 123, none, .bin .add (.tmp 122) (.const (.int .i64 1))⟩,
 ⟨some 1, none, .mov (.tmp 123)⟩])))
 (.seq (.ops [⟨some 124, none, .mov (.tmp 17)⟩,
 ⟨some 125, none, .mov (.tmp 18)⟩,
 ⟨some 126, none, .bin .geq (.tmp 124) (.tmp 125)⟩,
 ⟨some 8, none, .mov (.tmp 126)⟩])
 (.seq (.ops [⟨some 127, none, .mov (.tmp 0)⟩,
 ⟨some 128, none, .mov (.tmp 14)⟩,
 ⟨some 129, none, .bin .add (.tmp 128) (.const (.int .i64 1))⟩,
 ⟨some 130, none, .mov (.tmp 2)⟩,
 ⟨some 131, none, .mov (.tmp 3)⟩,
 ⟨some 132, none, .call (.func 172) [(.tmp 127), (.tmp 129), (.tmp 130), (.tmp 131)]⟩])
 (.ops [⟨some 133, none, .mov (.tmp 14)⟩,
 ⟨some 2, none, .mov (.tmp 133)⟩]))))))))))))))))))))))⟩
theorem ok172 : compF Tryz.prog Tryz.f172 = some c172 := by kernel_rfl
def c173 : CF := ⟨8, [.tmp 2],
 (.seq (.ops [⟨some 2, none, .mov (.const (.int .i64 0))⟩])
 (.seq (.cond (.const (.bool false))
 (.seq (.ops [⟨some 3, none, .mov (.tmp 0)⟩,
 ⟨some 4, none, .cvi .u32 (.tmp 3)⟩,
 ⟨some 5, none, .call (.func 218) [(.tmp 4)]⟩,
 ⟨some 2, none, .mov (.tmp 5)⟩])
 .ret)
 .skip)
 (.seq (.ops [⟨some 6, none, .mov (.tmp 0)⟩,
 ⟨some 7, none, .call (.func 157) [(.tmp 6)]⟩,
 ⟨some 2, none, .mov (.tmp 7)⟩])
 .ret)))⟩
theorem ok173 : compF Tryz.prog Tryz.f173 = some c173 := by kernel_rfl
def c174 : CF := ⟨76, [],
 (.seq (.ops [⟨some 10, none, .mov (.tmp 0)⟩,
 ⟨some 11, none, .mov (.tmp 1)⟩,
 ⟨some 12, none, .call (.func 132) [(.tmp 10), (.tmp 11)]⟩,
 ⟨some 6, none, .mov (.tmp 12)⟩])
 (.seq (.draw [⟨some 13, none, .mov (.tmp 0)⟩,
 ⟨some 14, none, .mov (.tmp 1)⟩,
 ⟨some 15, none, .call (.func 181) [(.tmp 13), (.tmp 14), (.const (.int .i64 9)), (.const (.int .i32 1))]⟩,
 ⟨some 16, none, .mov (.tmp 15)⟩,
 ⟨some 17, (some (16, true)), .mov (.tmp 0)⟩,
 ⟨some 18, (some (16, true)), .mov (.tmp 6)⟩,
 ⟨some 19, (some (16, true)), .iad 1 (.tmp 18) (.const (.int .i64 0))⟩,
 ⟨some 20, (some (16, true)), .ld1 (.tmp 19)⟩,
 ⟨some 21, (some (16, true)), .call (.func 181) [(.tmp 17), (.tmp 20), (.const (.int .i64 8)), (.const (.int .i32 2))]⟩,
 ⟨some 22, none, .pick (.tmp 16) (.tmp 21) (.const (.bool false))⟩,
 ⟨some 23, none, .mov (.tmp 22)⟩,
 ⟨some 24, (some (23, true)), .mov (.tmp 0)⟩,
 ⟨some 25, (some (23, true)), .nilck (.tmp 24)⟩,
 ⟨some 26, (some (23, true)), .fad (.tmp 25) 0⟩,
 ⟨some 27, (some (23, true)), .ld1 (.tmp 26)⟩,
 ⟨some 28, (some (23, true)), .mov (.tmp 6)⟩,
 ⟨some 29, (some (23, true)), .iad 1 (.tmp 28) (.const (.int .i64 0))⟩,
 ⟨some 30, (some (23, true)), .ld1 (.tmp 29)⟩,
 ⟨some 31, (some (23, true)), .iad 6 (.tmp 27) (.tmp 30)⟩,
 ⟨some 32, (some (23, true)), .fad (.tmp 31) 2⟩,
 ⟨some 33, (some (23, true)), .ld1 (.tmp 32)⟩,
 ⟨some 34, (some (23, true)), .mov (.tmp 6)⟩,
 ⟨some 35, (some (23, true)), .lnl (.tmp 34)⟩,
 ⟨some 36, (some (23, true)), .bin .sub (.tmp 35) (.const (.int .i64 1))⟩,
 ⟨some 37, (some (23, true)), .bin .eql (.tmp 33) (.tmp 36)⟩,
 ⟨some 38, none, .pick (.tmp 23) (.tmp 37) (.const (.bool false))⟩,
 ⟨some 39, none, .call (.func 131) [(.tmp 38)]⟩] [(0, 1), (4, 5), (4, 6), (4, 7), (11, 15), (12, 15), (13, 15), (14, 15), (11, 16), (12, 16), (13, 16), (14, 16), (11, 17), (12, 17), (13, 17), (14, 17), (11, 21), (12, 21), (13, 21), (14, 21), (15, 21), (16, 21), (17, 21), (18, 21), (19, 21), (20, 21), (11, 22), (12, 22), (13, 22), (14, 22), (15, 22), (16, 22), (17, 22), (18, 22), (19, 22), (20, 22), (11, 23), (12, 23), (13, 23), (14, 23), (15, 23), (16, 23), (17, 23), (18, 23), (19, 23), (20, 23)])
 (.seq (.ops [⟨some 40, none, .mov (.tmp 0)⟩,
 ⟨some 41, none, .mov (.tmp 6)⟩,
 ⟨some 42, none, .lnl (.tmp 41)⟩,
 ⟨some 43, none, .bin .mul (.const (.int .i64 2)) (.tmp 42)⟩,
 ⟨some 44, none, .bin .sub (.tmp 43) (.const (.int .i64 1))⟩,
 ⟨some 45, none, .agg [(.int .i64 0), (.int .i64 0), (.int .i64 0), (.string ⟨#[]⟩), (.int .i64 0), (.int .i64 0), (.int .i64 0)] [(0, 1, (.const (.int .i64 12))), (1, 1, (.tmp 44))]⟩,
 ⟨some 46, none, .mov (.tmp 1)⟩,
 ⟨some 47, none, .call (.func 135) [(.tmp 40), (.tmp 45), (.tmp 46)]⟩])
 (.seq (.ops [⟨some 48, none, .mov (.tmp 2)⟩,
 ⟨some 7, none, .mov (.tmp 48)⟩])
 (.seq (.seq (.ops [⟨some 49, none, .mov (.tmp 6)⟩,
 ⟨some 50, none, .sl 1 (.tmp 49) (some (.const (.int .i64 1))) none none⟩,
 ⟨some 51, none, .lnl (.tmp 50)⟩,
 ⟨some 52, none, .mov (.const (.int .i64 0))⟩])
 (.block 0 (.loop (.seq (.ops [⟨some 53, none, .bin .lss (.tmp 52) (.tmp 51)⟩])
 (.seq (.cond (.tmp 53)
 .skip
 (.exit 0))
 (.seq (.block 1 (.seq (.ops [⟨some 54, none, .iad 1 (.tmp 50) (.tmp 52)⟩,
 ⟨some 55, none, .ld1 (.tmp 54)⟩,
 ⟨some 9, none, .mov (.tmp 55)⟩])
 (.seq (.ops [⟨some 56, none, .mov (.tmp 7)⟩,
 ⟨some 57, none, .mov (.tmp 0)⟩,
 ⟨some 58, none, .mov (.tmp 6)⟩,
 ⟨some 59, none, .iad 1 (.tmp 58) (.const (.int .i64 0))⟩,
 ⟨some 60, none, .ld1 (.tmp 59)⟩,
 ⟨some 61, none, .call (.func 183) [(.tmp 57), (.tmp 60)]⟩,
 ⟨some 62, none, .lits [(.int .i64 0)] 1 [(0, 1, (.tmp 61))]⟩,
 ⟨some 63, none, .call (.func 182) [(.tmp 56), (.tmp 62)]⟩,
 ⟨some 7, none, .mov (.tmp 63)⟩])
 (.ops [⟨some 64, none, .mov (.tmp 0)⟩,
 ⟨some 65, none, .mov (.tmp 9)⟩,
 ⟨some 66, none, .mov (.tmp 2)⟩,
 ⟨some 67, none, .call (.func 86) [(.tmp 64), (.tmp 65), (.tmp 66)]⟩]))))
 (.ops [⟨some 68, none, .bin .add (.tmp 52) (.const (.int .i64 1))⟩,
 ⟨some 52, none, .mov (.tmp 68)⟩])))))))
 (.ops [⟨some 69, none, .mov (.tmp 0)⟩,
 ⟨some 70, none, .mov (.tmp 6)⟩,
 ⟨some 71, none, .iad 1 (.tmp 70) (.const (.int .i64 0))⟩,
 ⟨some 72, none, .ld1 (.tmp 71)⟩,
 ⟨some 73, none, .bin .add (.tmp 72) (.const (.int .i64 1))⟩,
 ⟨some 74, none, .mov (.tmp 7)⟩,
 ⟨some 75, none, .call (.func 86) [(.tmp 69), (.tmp 73), (.tmp 74)]⟩]))))))⟩
theorem ok174 : compF Tryz.prog Tryz.f174 = some c174 := by kernel_rfl
def c175 : CF := ⟨92, [],
 (.seq (.ops [⟨some 9, none, .mov (.tmp 0)⟩,
 ⟨some 10, none, .agg [(.int .i64 0), (.int .i64 0), (.int .i64 0), (.string ⟨#[]⟩), (.int .i64 0), (.int .i64 0), (.int .i64 0)] [(0, 1, (.const (.int .i64 13))), (1, 1, (.const (.int .i64 1)))]⟩,
 ⟨some 11, none, .mov (.tmp 1)⟩,
 ⟨some 12, none, .call (.func 135) [(.tmp 9), (.tmp 10), (.tmp 11)]⟩,
 ⟨some 6, none, .mov (.tmp 12)⟩])
 (.seq (.block 0 (.loop (.seq (.seq (.ops [⟨some 13, none, .mov (.tmp 0)⟩,
 ⟨some 14, none, .nilck (.tmp 13)⟩,
 ⟨some 15, none, .fad (.tmp 14) 0⟩,
 ⟨some 16, none, .ld1 (.tmp 15)⟩,
 ⟨some 17, none, .mov (.tmp 1)⟩,
 ⟨some 18, none, .iad 6 (.tmp 16) (.tmp 17)⟩,
 ⟨some 19, none, .fad (.tmp 18) 4⟩,
 ⟨some 20, none, .ld1 (.tmp 19)⟩,
 ⟨some 21, none, .bin .eql (.tmp 20) (.const (.int .i32 3))⟩])
 (.cond (.tmp 21)
 .skip
 (.exit 0)))
 (.block 1 (.seq (.ops [⟨some 22, none, .mov (.tmp 1)⟩,
 ⟨some 23, none, .bin .add (.tmp 22) (.const (.int .i64 1))⟩,
 ⟨some 7, none, .mov (.tmp 23)⟩])
 (.seq (.ops [⟨some 24, none, .mov (.tmp 0)⟩,
 ⟨some 25, none, .mov (.tmp 1)⟩,
 ⟨some 26, none, .call (.func 181) [(.tmp 24), (.tmp 25), (.const (.int .i64 9)), (.const (.int .i32 3))]⟩,
 ⟨some 27, none, .mov (.tmp 26)⟩,
 ⟨some 28, (some (27, true)), .mov (.tmp 0)⟩,
 ⟨some 29, (some (27, true)), .nilck (.tmp 28)⟩,
 ⟨some 30, (some (27, true)), .fad (.tmp 29) 0⟩,
 ⟨some 31, (some (27, true)), .ld1 (.tmp 30)⟩,
 ⟨some 32, (some (27, true)), .mov (.tmp 1)⟩,
 ⟨some 33, (some (27, true)), .iad 6 (.tmp 31) (.tmp 32)⟩,
 ⟨some 34, (some (27, true)), .fad (.tmp 33) 1⟩,
 ⟨some 35, (some (27, true)), .ld1 (.tmp 34)⟩,
 ⟨some 36, (some (27, true)), .bin .eql (.tmp 35) (.const (.int .i64 2))⟩,
 ⟨some 37, none, .pick (.tmp 27) (.tmp 36) (.const (.bool false))⟩,
 ⟨some 38, none, .mov (.tmp 37)⟩,
 ⟨some 39, (some (38, true)), .mov (.tmp 0)⟩,
 ⟨some 40, (some (38, true)), .mov (.tmp 7)⟩,
 ⟨some 41, (some (38, true)), .call (.func 181) [(.tmp 39), (.tmp 40), (.const (.int .i64 8)), (.const (.int .i32 4))]⟩,
 ⟨some 42, none, .pick (.tmp 38) (.tmp 41) (.const (.bool false))⟩,
 ⟨some 43, none, .mov (.tmp 42)⟩,
 ⟨some 44, (some (43, true)), .mov (.tmp 0)⟩,
 ⟨some 45, (some (43, true)), .nilck (.tmp 44)⟩,
 ⟨some 46, (some (43, true)), .fad (.tmp 45) 0⟩,
 ⟨some 47, (some (43, true)), .ld1 (.tmp 46)⟩,
 ⟨some 48, (some (43, true)), .mov (.tmp 7)⟩,
 ⟨some 49, (some (43, true)), .iad 6 (.tmp 47) (.tmp 48)⟩,
 ⟨some 50, (some (43, true)), .fad (.tmp 49) 2⟩,
 ⟨some 51, (some (43, true)), .ld1 (.tmp 50)⟩,
 ⟨some 52, (some (43, true)), .bin .eql (.tmp 51) (.const (.int .i64 1))⟩,
 ⟨some 53, none, .pick (.tmp 43) (.tmp 52) (.const (.bool false))⟩,
 ⟨some 54, none, .call (.func 131) [(.tmp 53)]⟩])
 (.seq (.ops [⟨some 55, none, .mov (.tmp 0)⟩,
 ⟨some 56, none, .mov (.tmp 7)⟩,
 ⟨some 57, none, .call (.func 183) [(.tmp 55), (.tmp 56)]⟩,
 ⟨some 8, none, .mov (.tmp 57)⟩])
 (.seq (.ops [⟨some 58, none, .mov (.tmp 0)⟩,
 ⟨some 59, none, .mov (.tmp 0)⟩,
 ⟨some 60, none, .nilck (.tmp 59)⟩,
 ⟨some 61, none, .fad (.tmp 60) 1⟩,
 ⟨some 62, none, .ld1 (.tmp 61)⟩,
 ⟨some 63, none, .mov (.tmp 7)⟩,
 ⟨some 64, none, .iad 1 (.tmp 62) (.tmp 63)⟩,
 ⟨some 65, none, .ld1 (.tmp 64)⟩,
 ⟨some 66, none, .mov (.tmp 2)⟩,
 ⟨some 67, none, .call (.func 86) [(.tmp 58), (.tmp 65), (.tmp 66)]⟩])
 (.seq (.ops [⟨some 68, none, .mov (.tmp 2)⟩,
 ⟨some 69, none, .mov (.tmp 8)⟩,
 ⟨some 70, none, .lits [(.int .i64 0)] 1 [(0, 1, (.tmp 69))]⟩,
 ⟨some 71, none, .call (.func 182) [(.tmp 68), (.tmp 70)]⟩,
 ⟨some 2, none, .mov (.tmp 71)⟩])
 (.seq (.ops [⟨some 72, none, .mov (.tmp 0)⟩,
 ⟨some 73, none, .nilck (.tmp 72)⟩,
 ⟨some 74, none, .fad (.tmp 73) 3⟩,
 ⟨some 75, none, .fad (.tmp 74) 0⟩,
 ⟨some 76, none, .ld1 (.tmp 75)⟩,
 ⟨some 77, none, .mov (.tmp 6)⟩,
 ⟨some 78, none, .iad 7 (.tmp 76) (.tmp 77)⟩,
 ⟨some 79, none, .fad (.tmp 78) 1⟩,
 ⟨some 80, none, .ld1 (.tmp 79)⟩,
 ⟨some 81, none, .bin .add (.tmp 80) (.const (.int .i64 2))⟩,
 ⟨some 82, none, .iad 7 (.tmp 76) (.tmp 77)⟩,
 ⟨some 83, none, .fad (.tmp 82) 1⟩,
 ⟨none, none, .st 1 (.tmp 83) (.tmp 81)⟩])
 (.ops [⟨some 84, none, .mov (.tmp 7)⟩,
 ⟨some 85, none, .bin .add (.tmp 84) (.const (.int .i64 1))⟩,
 ⟨some 1, none, .mov (.tmp 85)⟩])))))))))))
 (.ops [⟨some 86, none, .mov (.tmp 0)⟩,
 ⟨some 87, none, .mov (.tmp 0)⟩,
 ⟨some 88, none, .mov (.tmp 1)⟩,
 ⟨some 89, none, .call (.func 219) [(.tmp 87), (.tmp 88), (.const (.int .i32 5))]⟩,
 ⟨some 90, none, .mov (.tmp 2)⟩,
 ⟨some 91, none, .call (.func 86) [(.tmp 86), (.tmp 89), (.tmp 90)]⟩])))⟩
theorem ok175 : compF Tryz.prog Tryz.f175 = some c175 := by kernel_rfl
def c176 : CF := ⟨119, [],
 (.seq (.ops [⟨some 16, none, .mov (.tmp 0)⟩,
 ⟨some 17, none, .mov (.tmp 1)⟩,
 ⟨some 18, none, .call (.func 181) [(.tmp 16), (.tmp 17), (.const (.int .i64 11)), (.const (.int .i32 7))]⟩,
 ⟨some 19, none, .call (.func 131) [(.tmp 18)]⟩])
 (.seq (.ops [⟨some 20, none, .mov (.tmp 0)⟩,
 ⟨some 21, none, .mov (.tmp 1)⟩,
 ⟨some 22, none, .call (.func 132) [(.tmp 20), (.tmp 21)]⟩,
 ⟨some 6, none, .mov (.tmp 22)⟩])
 (.seq (.ops [⟨some 23, none, .mov (.tmp 6)⟩,
 ⟨some 24, none, .mov (.tmp 6)⟩,
 ⟨some 25, none, .lnl (.tmp 24)⟩,
 ⟨some 26, none, .bin .sub (.tmp 25) (.const (.int .i64 1))⟩,
 ⟨some 27, none, .iad 1 (.tmp 23) (.tmp 26)⟩,
 ⟨some 28, none, .ld1 (.tmp 27)⟩,
 ⟨some 7, none, .mov (.tmp 28)⟩])
 (.seq (.ops [⟨some 29, none, .mov (.tmp 6)⟩,
 ⟨some 30, none, .mov (.tmp 6)⟩,
 ⟨some 31, none, .lnl (.tmp 30)⟩,
 ⟨some 32, none, .bin .sub (.tmp 31) (.const (.int .i64 1))⟩,
 ⟨some 33, none, .sl 1 (.tmp 29) none (some (.tmp 32)) none⟩,
 ⟨some 6, none, .mov (.tmp 33)⟩])
 (.seq (.ops [⟨some 34, none, .mov (.tmp 0)⟩,
 ⟨some 35, none, .mov (.tmp 6)⟩,
 ⟨some 36, none, .lnl (.tmp 35)⟩,
 ⟨some 37, none, .bin .mul (.const (.int .i64 2)) (.tmp 36)⟩,
 ⟨some 38, none, .bin .add (.tmp 37) (.const (.int .i64 1))⟩,
 ⟨some 39, none, .agg [(.int .i64 0), (.int .i64 0), (.int .i64 0), (.string ⟨#[]⟩), (.int .i64 0), (.int .i64 0), (.int .i64 0)] [(0, 1, (.const (.int .i64 14))), (1, 1, (.tmp 38))]⟩,
 ⟨some 40, none, .mov (.tmp 1)⟩,
 ⟨some 41, none, .call (.func 135) [(.tmp 34), (.tmp 39), (.tmp 40)]⟩])
 (.seq (.ops [⟨some 42, none, .mov (.tmp 2)⟩,
 ⟨some 8, none, .mov (.tmp 42)⟩])
 (.seq (.ops [⟨some 43, none, .mov (.tmp 0)⟩,
 ⟨some 44, none, .nilck (.tmp 43)⟩,
 ⟨some 45, none, .fad (.tmp 44) 5⟩,
 ⟨some 46, none, .ld1 (.tmp 45)⟩,
 ⟨some 9, none, .mov (.tmp 46)⟩])
 (.seq (.seq (.ops [⟨some 47, none, .mov (.tmp 6)⟩,
 ⟨some 48, none, .lnl (.tmp 47)⟩,
 ⟨some 49, none, .mov (.const (.int .i64 0))⟩])
 (.block 0 (.loop (.seq (.ops [⟨some 50, none, .bin .lss (.tmp 49) (.tmp 48)⟩])
 (.seq (.cond (.tmp 50)
 .skip
 (.exit 0))
 (.seq (.block 1 (.seq (.ops [⟨some 51, none, .iad 1 (.tmp 47) (.tmp 49)⟩,
 ⟨some 52, none, .ld1 (.tmp 51)⟩,
 ⟨some 11, none, .mov (.tmp 52)⟩])
 (.seq (.ops [⟨some 53, none, .mov (.tmp 8)⟩,
 ⟨some 54, none, .mov (.tmp 9)⟩,
 ⟨some 55, none, .lits [(.int .i64 0)] 1 [(0, 1, (.tmp 54))]⟩,
 ⟨some 56, none, .call (.func 182) [(.tmp 53), (.tmp 55)]⟩,
 ⟨some 8, none, .mov (.tmp 56)⟩])
 (.seq (.ops [⟨some 57, none, .mov (.tmp 9)⟩,
 ⟨some 58, none, .bin .add (.tmp 57) (.const (.int .i64 1))⟩,
 ⟨some 9, none, .mov (.tmp 58)⟩])
 (.seq (.draw [⟨some 59, none, .mov (.tmp 0)⟩,
 ⟨some 60, none, .nilck (.tmp 59)⟩,
 ⟨some 61, none, .fad (.tmp 60) 0⟩,
 ⟨some 62, none, .ld1 (.tmp 61)⟩,
 ⟨some 63, none, .mov (.tmp 11)⟩,
 ⟨some 64, none, .mov (.tmp 0)⟩,
 ⟨some 65, none, .nilck (.tmp 64)⟩,
 ⟨some 66, none, .fad (.tmp 65) 1⟩,
 ⟨some 67, none, .ld1 (.tmp 66)⟩,
 ⟨some 68, none, .mov (.tmp 11)⟩,
 ⟨some 69, none, .iad 1 (.tmp 67) (.tmp 68)⟩,
 ⟨some 70, none, .ld1 (.tmp 69)⟩,
 ⟨some 71, none, .sl 6 (.tmp 62) (some (.tmp 63)) (some (.tmp 70)) none⟩,
 ⟨some 72, none, .lnl (.tmp 71)⟩,
 ⟨some 73, none, .mov (.const (.int .i64 0))⟩] [(0, 4), (1, 4), (2, 4), (3, 4), (0, 5), (1, 5), (2, 5), (3, 5), (4, 5), (0, 6), (1, 6), (2, 6), (3, 6), (4, 6), (0, 7), (1, 7), (2, 7), (3, 7), (4, 7), (0, 8), (1, 8), (2, 8), (3, 8), (4, 8), (0, 9), (1, 9), (2, 9), (3, 9), (4, 9), (5, 9), (6, 9), (7, 9), (8, 9), (0, 10), (1, 10), (2, 10), (3, 10), (4, 10), (0, 11), (1, 11), (2, 11), (3, 11), (4, 11), (0, 14), (1, 14), (2, 14), (3, 14), (4, 14), (5, 14), (6, 14), (7, 14), (8, 14), (9, 14), (10, 14), (11, 14), (12, 14), (13, 14)])
 (.block 2 (.loop (.seq (.ops [⟨some 74, none, .bin .lss (.tmp 73) (.tmp 72)⟩])
 (.seq (.cond (.tmp 74)
 .skip
 (.exit 2))
 (.seq (.block 3 (.seq (.ops [⟨some 75, none, .iad 6 (.tmp 71) (.tmp 73)⟩,
 ⟨some 76, none, .ld 6 (.tmp 75)⟩,
 ⟨some 13, none, .newz [(.int .i64 0), (.int .i64 0), (.int .i64 0), (.string ⟨#[]⟩), (.int .i32 0), (.int .i32 0)]⟩,
 ⟨none, none, .st 6 (.tmp 13) (.tmp 76)⟩])
 (.seq (.ops [⟨some 77, none, .fad (.tmp 13) 4⟩,
 ⟨some 78, none, .ld1 (.tmp 77)⟩,
 ⟨some 79, none, .bin .neq (.tmp 78) (.const (.int .i32 17))⟩,
 ⟨some 80, none, .mov (.tmp 79)⟩,
 ⟨some 81, (some (80, true)), .fad (.tmp 13) 4⟩,
 ⟨some 82, (some (80, true)), .ld1 (.tmp 81)⟩,
 ⟨some 83, (some (80, true)), .bin .neq (.tmp 82) (.const (.int .i32 24))⟩,
 ⟨some 84, none, .pick (.tmp 80) (.tmp 83) (.const (.bool false))⟩,
 ⟨some 85, none, .mov (.tmp 84)⟩,
 ⟨some 86, (some (85, true)), .fad (.tmp 13) 0⟩,
 ⟨some 87, (some (85, true)), .ld1 (.tmp 86)⟩,
 ⟨some 88, (some (85, true)), .bin .eql (.tmp 87) (.const (.int .i64 8))⟩,
 ⟨some 89, (some (85, true)), .mov (.tmp 88)⟩,
 ⟨some 90, (some (89, false)), .fad (.tmp 13) 0⟩,
 ⟨some 91, (some (89, false)), .ld1 (.tmp 90)⟩,
 ⟨some 92, (some (89, false)), .bin .eql (.tmp 91) (.const (.int .i64 11))⟩,
 ⟨some 93, (some (85, true)), .pick (.tmp 89) (.const (.bool true)) (.tmp 92)⟩,
 ⟨some 94, none, .pick (.tmp 85) (.tmp 93) (.const (.bool false))⟩])
 (.cond (.tmp 94)
 (.ops [⟨some 95, none, .mov (.tmp 9)⟩,
 ⟨some 96, none, .fad (.tmp 13) 2⟩,
 ⟨some 97, none, .ld1 (.tmp 96)⟩,
 ⟨some 98, none, .bin .add (.tmp 95) (.tmp 97)⟩,
 ⟨some 9, none, .mov (.tmp 98)⟩])
 .skip))))
 (.ops [⟨some 99, none, .bin .add (.tmp 73) (.const (.int .i64 1))⟩,
 ⟨some 73, none, .mov (.tmp 99)⟩])))))))))))
 (.ops [⟨some 100, none, .bin .add (.tmp 49) (.const (.int .i64 1))⟩,
 ⟨some 49, none, .mov (.tmp 100)⟩])))))))
 (.seq (.seq (.ops [⟨some 101, none, .mov (.tmp 6)⟩,
 ⟨some 102, none, .lnl (.tmp 101)⟩,
 ⟨some 103, none, .mov (.const (.int .i64 0))⟩])
 (.block 4 (.loop (.seq (.ops [⟨some 104, none, .bin .lss (.tmp 103) (.tmp 102)⟩])
 (.seq (.cond (.tmp 104)
 .skip
 (.exit 4))
 (.seq (.block 5 (.seq (.ops [⟨some 105, none, .iad 1 (.tmp 101) (.tmp 103)⟩,
 ⟨some 106, none, .ld1 (.tmp 105)⟩,
 ⟨some 15, none, .mov (.tmp 106)⟩])
 (.seq (.ops [⟨some 107, none, .mov (.tmp 0)⟩,
 ⟨some 108, none, .mov (.tmp 1)⟩,
 ⟨some 109, none, .call (.func 183) [(.tmp 107), (.tmp 108)]⟩])
 (.ops [⟨some 110, none, .mov (.tmp 0)⟩,
 ⟨some 111, none, .mov (.tmp 15)⟩,
 ⟨some 112, none, .mov (.tmp 8)⟩,
 ⟨some 113, none, .call (.func 136) [(.tmp 110), (.tmp 111), (.tmp 112)]⟩]))))
 (.ops [⟨some 114, none, .bin .add (.tmp 103) (.const (.int .i64 1))⟩,
 ⟨some 103, none, .mov (.tmp 114)⟩])))))))
 (.ops [⟨some 115, none, .mov (.tmp 0)⟩,
 ⟨some 116, none, .mov (.tmp 7)⟩,
 ⟨some 117, none, .mov (.tmp 8)⟩,
 ⟨some 118, none, .call (.func 86) [(.tmp 115), (.tmp 116), (.tmp 117)]⟩]))))))))))⟩
theorem ok176 : compF Tryz.prog Tryz.f176 = some c176 := by kernel_rfl
def c177 : CF := ⟨18, [],
 (.seq (.ops [⟨some 7, none, .mov (.tmp 0)⟩,
 ⟨some 8, none, .mov (.tmp 1)⟩,
 ⟨some 9, none, .call (.func 219) [(.tmp 7), (.tmp 8), (.const (.int .i32 26))]⟩,
 ⟨some 6, none, .mov (.tmp 9)⟩])
 (.seq (.ops [⟨some 10, none, .mov (.tmp 0)⟩,
 ⟨some 11, none, .agg [(.int .i64 0), (.int .i64 0), (.int .i64 0), (.string ⟨#[]⟩), (.int .i64 0), (.int .i64 0), (.int .i64 0)] [(0, 1, (.const (.int .i64 14))), (1, 1, (.const (.int .i64 1)))]⟩,
 ⟨some 12, none, .mov (.tmp 1)⟩,
 ⟨some 13, none, .call (.func 135) [(.tmp 10), (.tmp 11), (.tmp 12)]⟩])
 (.ops [⟨some 14, none, .mov (.tmp 0)⟩,
 ⟨some 15, none, .mov (.tmp 6)⟩,
 ⟨some 16, none, .mov (.tmp 2)⟩,
 ⟨some 17, none, .call (.func 86) [(.tmp 14), (.tmp 15), (.tmp 16)]⟩])))⟩
theorem ok177 : compF Tryz.prog Tryz.f177 = some c177 := by kernel_rfl
def c178 : CF := ⟨61, [],
 (.seq (.ops [⟨some 9, none, .mov (.tmp 0)⟩,
 ⟨some 10, none, .agg [(.int .i64 0), (.int .i64 0), (.int .i64 0), (.string ⟨#[]⟩), (.int .i64 0), (.int .i64 0), (.int .i64 0)] [(0, 1, (.const (.int .i64 15))), (1, 1, (.const (.int .i64 1)))]⟩,
 ⟨some 11, none, .mov (.tmp 1)⟩,
 ⟨some 12, none, .call (.func 135) [(.tmp 9), (.tmp 10), (.tmp 11)]⟩,
 ⟨some 6, none, .mov (.tmp 12)⟩])
 (.seq (.block 0 (.loop (.seq (.seq (.ops [⟨some 13, none, .mov (.tmp 0)⟩,
 ⟨some 14, none, .mov (.tmp 1)⟩,
 ⟨some 15, none, .call (.func 181) [(.tmp 13), (.tmp 14), (.const (.int .i64 10)), (.const (.int .i32 8))]⟩])
 (.cond (.tmp 15)
 .skip
 (.exit 0)))
 (.block 1 (.seq (.ops [⟨some 16, none, .mov (.tmp 0)⟩,
 ⟨some 17, none, .mov (.tmp 1)⟩,
 ⟨some 18, none, .call (.func 132) [(.tmp 16), (.tmp 17)]⟩,
 ⟨some 7, none, .mov (.tmp 18)⟩])
 (.seq (.ops [⟨some 19, none, .mov (.tmp 0)⟩,
 ⟨some 20, none, .agg [(.int .i64 0), (.int .i64 0), (.int .i64 0), (.string ⟨#[]⟩), (.int .i64 0), (.int .i64 0), (.int .i64 0)] [(0, 1, (.const (.int .i64 16))), (1, 1, (.const (.int .i64 2)))]⟩,
 ⟨some 21, none, .mov (.tmp 1)⟩,
 ⟨some 22, none, .call (.func 135) [(.tmp 19), (.tmp 20), (.tmp 21)]⟩])
 (.seq (.ops [⟨some 23, none, .mov (.tmp 0)⟩,
 ⟨some 24, none, .mov (.tmp 7)⟩,
 ⟨some 25, none, .iad 1 (.tmp 24) (.const (.int .i64 0))⟩,
 ⟨some 26, none, .ld1 (.tmp 25)⟩,
 ⟨some 27, none, .mov (.tmp 2)⟩,
 ⟨some 28, none, .call (.func 86) [(.tmp 23), (.tmp 26), (.tmp 27)]⟩])
 (.seq (.ops [⟨some 29, none, .mov (.tmp 0)⟩,
 ⟨some 30, none, .mov (.tmp 7)⟩,
 ⟨some 31, none, .iad 1 (.tmp 30) (.const (.int .i64 1))⟩,
 ⟨some 32, none, .ld1 (.tmp 31)⟩,
 ⟨some 33, none, .mov (.tmp 2)⟩,
 ⟨some 34, none, .call (.func 86) [(.tmp 29), (.tmp 32), (.tmp 33)]⟩])
 (.seq (.ops [⟨some 35, none, .mov (.tmp 0)⟩,
 ⟨some 36, none, .nilck (.tmp 35)⟩,
 ⟨some 37, none, .fad (.tmp 36) 3⟩,
 ⟨some 38, none, .fad (.tmp 37) 0⟩,
 ⟨some 39, none, .ld1 (.tmp 38)⟩,
 ⟨some 40, none, .mov (.tmp 6)⟩,
 ⟨some 41, none, .iad 7 (.tmp 39) (.tmp 40)⟩,
 ⟨some 42, none, .fad (.tmp 41) 1⟩,
 ⟨some 43, none, .ld1 (.tmp 42)⟩,
 ⟨some 44, none, .bin .add (.tmp 43) (.const (.int .i64 1))⟩,
 ⟨some 45, none, .iad 7 (.tmp 39) (.tmp 40)⟩,
 ⟨some 46, none, .fad (.tmp 45) 1⟩,
 ⟨none, none, .st 1 (.tmp 46) (.tmp 44)⟩])
 (.ops [⟨some 47, none, .mov (.tmp 7)⟩,
 ⟨some 48, none, .iad 1 (.tmp 47) (.const (.int .i64 2))⟩,
 ⟨some 49, none, .ld1 (.tmp 48)⟩,
 ⟨some 1, none, .mov (.tmp 49)⟩]))))))))))
 (.seq (.ops [⟨some 50, none, .mov (.tmp 0)⟩,
 ⟨some 51, none, .mov (.tmp 1)⟩,
 ⟨some 52, none, .call (.func 219) [(.tmp 50), (.tmp 51), (.const (.int .i32 9))]⟩,
 ⟨some 8, none, .mov (.tmp 52)⟩])
 (.seq (.ops [⟨some 53, none, .mov (.tmp 0)⟩,
 ⟨some 54, none, .agg [(.int .i64 0), (.int .i64 0), (.int .i64 0), (.string ⟨#[]⟩), (.int .i64 0), (.int .i64 0), (.int .i64 0)] [(0, 1, (.const (.int .i64 17))), (1, 1, (.const (.int .i64 1)))]⟩,
 ⟨some 55, none, .mov (.tmp 1)⟩,
 ⟨some 56, none, .call (.func 135) [(.tmp 53), (.tmp 54), (.tmp 55)]⟩])
 (.ops [⟨some 57, none, .mov (.tmp 0)⟩,
 ⟨some 58, none, .mov (.tmp 8)⟩,
 ⟨some 59, none, .mov (.tmp 2)⟩,
 ⟨some 60, none, .call (.func 86) [(.tmp 57), (.tmp 58), (.tmp 59)]⟩])))))⟩
theorem ok178 : compF Tryz.prog Tryz.f178 = some c178 := by kernel_rfl
def c179 : CF := ⟨69, [],
 (.seq (.ops [⟨some 10, none, .mov (.tmp 0)⟩,
 ⟨some 11, none, .nilck (.tmp 10)⟩,
 ⟨some 12, none, .fad (.tmp 11) 0⟩,
 ⟨some 13, none, .ld1 (.tmp 12)⟩,
 ⟨some 14, none, .mov (.tmp 1)⟩,
 ⟨some 15, none, .iad 6 (.tmp 13) (.tmp 14)⟩,
 ⟨some 16, none, .fad (.tmp 15) 0⟩,
 ⟨some 17, none, .ld1 (.tmp 16)⟩,
 ⟨some 18, none, .bin .eql (.tmp 17) (.const (.int .i64 10))⟩,
 ⟨some 19, none, .call (.func 131) [(.tmp 18)]⟩])
 (.seq (.ops [⟨some 20, none, .mov (.tmp 0)⟩,
 ⟨some 21, none, .mov (.tmp 1)⟩,
 ⟨some 22, none, .call (.func 132) [(.tmp 20), (.tmp 21)]⟩,
 ⟨some 6, none, .mov (.tmp 22)⟩])
 (.seq (.draw [⟨some 23, none, .mov (.tmp 6)⟩,
 ⟨some 24, none, .iad 1 (.tmp 23) (.const (.int .i64 1))⟩,
 ⟨some 25, none, .ld1 (.tmp 24)⟩,
 ⟨some 26, none, .mov (.tmp 6)⟩,
 ⟨some 27, none, .iad 1 (.tmp 26) (.const (.int .i64 2))⟩,
 ⟨some 28, none, .ld1 (.tmp 27)⟩,
 ⟨some 7, none, .mov (.const (.int .i64 20))⟩,
 ⟨some 8, none, .mov (.tmp 25)⟩,
 ⟨some 9, none, .mov (.tmp 28)⟩] [(0, 3), (1, 3), (2, 3), (0, 4), (1, 4), (2, 4), (0, 5), (1, 5), (2, 5), (0, 6), (1, 6), (2, 6), (3, 6), (4, 6), (5, 6), (3, 7), (4, 7), (5, 7)])
 (.seq (.seq (.ops [⟨some 29, none, .mov (.tmp 0)⟩,
 ⟨some 30, none, .nilck (.tmp 29)⟩,
 ⟨some 31, none, .fad (.tmp 30) 0⟩,
 ⟨some 32, none, .ld1 (.tmp 31)⟩,
 ⟨some 33, none, .mov (.tmp 1)⟩,
 ⟨some 34, none, .iad 6 (.tmp 32) (.tmp 33)⟩,
 ⟨some 35, none, .fad (.tmp 34) 4⟩,
 ⟨some 36, none, .ld1 (.tmp 35)⟩,
 ⟨some 37, none, .bin .eql (.tmp 36) (.const (.int .i32 20))⟩])
 (.cond (.tmp 37)
 (.draw [⟨some 38, none, .mov (.tmp 6)⟩,
 ⟨some 39, none, .iad 1 (.tmp 38) (.const (.int .i64 2))⟩,
 ⟨some 40, none, .ld1 (.tmp 39)⟩,
 ⟨some 41, none, .mov (.tmp 6)⟩,
 ⟨some 42, none, .iad 1 (.tmp 41) (.const (.int .i64 1))⟩,
 ⟨some 43, none, .ld1 (.tmp 42)⟩,
 ⟨some 7, none, .mov (.const (.int .i64 21))⟩,
 ⟨some 8, none, .mov (.tmp 40)⟩,
 ⟨some 9, none, .mov (.tmp 43)⟩] [(0, 3), (1, 3), (2, 3), (0, 4), (1, 4), (2, 4), (0, 5), (1, 5), (2, 5), (0, 6), (1, 6), (2, 6), (3, 6), (4, 6), (5, 6), (3, 7), (4, 7), (5, 7)])
 .skip))
 (.seq (.ops [⟨some 44, none, .mov (.tmp 0)⟩,
 ⟨some 45, none, .nilck (.tmp 44)⟩,
 ⟨some 46, none, .fad (.tmp 45) 0⟩,
 ⟨some 47, none, .ld1 (.tmp 46)⟩,
 ⟨some 48, none, .mov (.tmp 9)⟩,
 ⟨some 49, none, .iad 6 (.tmp 47) (.tmp 48)⟩,
 ⟨some 50, none, .fad (.tmp 49) 0⟩,
 ⟨some 51, none, .ld1 (.tmp 50)⟩,
 ⟨some 52, none, .bin .eql (.tmp 51) (.const (.int .i64 4))⟩,
 ⟨some 53, none, .call (.func 131) [(.tmp 52)]⟩])
 (.seq (.ops [⟨some 54, none, .mov (.tmp 0)⟩,
 ⟨some 55, none, .mov (.tmp 7)⟩,
 ⟨some 56, none, .agg [(.int .i64 0), (.int .i64 0), (.int .i64 0), (.string ⟨#[]⟩), (.int .i64 0), (.int .i64 0), (.int .i64 0)] [(0, 1, (.tmp 55)), (1, 1, (.const (.int .i64 2)))]⟩,
 ⟨some 57, none, .mov (.tmp 1)⟩,
 ⟨some 58, none, .call (.func 135) [(.tmp 54), (.tmp 56), (.tmp 57)]⟩])
 (.seq (.ops [⟨some 59, none, .mov (.tmp 0)⟩,
 ⟨some 60, none, .mov (.tmp 6)⟩,
 ⟨some 61, none, .iad 1 (.tmp 60) (.const (.int .i64 0))⟩,
 ⟨some 62, none, .ld1 (.tmp 61)⟩,
 ⟨some 63, none, .mov (.tmp 2)⟩,
 ⟨some 64, none, .call (.func 86) [(.tmp 59), (.tmp 62), (.tmp 63)]⟩])
 (.ops [⟨some 65, none, .mov (.tmp 0)⟩,
 ⟨some 66, none, .mov (.tmp 8)⟩,
 ⟨some 67, none, .mov (.tmp 2)⟩,
 ⟨some 68, none, .call (.func 86) [(.tmp 65), (.tmp 66), (.tmp 67)]⟩]))))))))⟩
theorem ok179 : compF Tryz.prog Tryz.f179 = some c179 := by kernel_rfl
def c180 : CF := ⟨180, [],
 (.seq (.ops [⟨some 15, none, .mov (.tmp 0)⟩,
 ⟨some 16, none, .nilck (.tmp 15)⟩,
 ⟨some 17, none, .fad (.tmp 16) 0⟩,
 ⟨some 18, none, .ld1 (.tmp 17)⟩,
 ⟨some 19, none, .mov (.tmp 1)⟩,
 ⟨some 20, none, .iad 6 (.tmp 18) (.tmp 19)⟩,
 ⟨some 21, none, .fad (.tmp 20) 4⟩,
 ⟨some 22, none, .ld1 (.tmp 21)⟩,
 ⟨some 23, none, .cvi .i64 (.tmp 22)⟩,
 ⟨some 24, none, .call (.func 220) [(.tmp 23)]⟩,
 ⟨some 14, none, .mov (.tmp 24)⟩,
 ⟨some 25, none, .ext (.tmp 14) 0⟩,
 ⟨some 26, none, .ext (.tmp 14) 1⟩,
 ⟨some 6, none, .mov (.tmp 25)⟩,
 ⟨some 7, none, .mov (.tmp 26)⟩])
 (.seq (.ops [⟨some 27, none, .mov (.tmp 0)⟩,
 ⟨some 28, none, .mov (.tmp 6)⟩,
 ⟨some 29, none, .agg [(.int .i64 0), (.int .i64 0), (.int .i64 0), (.string ⟨#[]⟩), (.int .i64 0), (.int .i64 0), (.int .i64 0)] [(0, 1, (.tmp 28))]⟩,
 ⟨some 30, none, .mov (.tmp 1)⟩,
 ⟨some 31, none, .call (.func 135) [(.tmp 27), (.tmp 29), (.tmp 30)]⟩,
 ⟨some 8, none, .mov (.tmp 31)⟩])
 (.seq (.block 0 (.loop (.block 1 (.seq (.ops [⟨some 33, none, .mov (.tmp 0)⟩,
 ⟨some 34, none, .mov (.tmp 1)⟩,
 ⟨some 35, none, .mov (.tmp 6)⟩,
 ⟨some 36, none, .call (.func 221) [(.tmp 33), (.tmp 34), (.tmp 35)]⟩,
 ⟨some 32, none, .mov (.tmp 36)⟩,
 ⟨some 37, none, .ext (.tmp 32) 0⟩,
 ⟨some 38, none, .ext (.tmp 32) 1⟩,
 ⟨some 9, none, .newz [(.int .i64 0), (.int .i64 0), (.bool false)]⟩,
 ⟨none, none, .st 3 (.tmp 9) (.tmp 37)⟩,
 ⟨some 10, none, .mov (.tmp 38)⟩])
 (.seq (.seq (.ops [⟨some 39, none, .mov (.tmp 10)⟩,
 ⟨some 40, none, .un .not (.tmp 39)⟩])
 (.cond (.tmp 40)
 (.exit 0)
 .skip))
 (.seq (.ops [⟨some 41, none, .mov (.tmp 0)⟩,
 ⟨some 42, none, .fad (.tmp 9) 0⟩,
 ⟨some 43, none, .ld1 (.tmp 42)⟩,
 ⟨some 44, none, .mov (.tmp 2)⟩,
 ⟨some 45, none, .call (.func 86) [(.tmp 41), (.tmp 43), (.tmp 44)]⟩])
 (.seq (.ops [⟨some 46, none, .mov (.tmp 0)⟩,
 ⟨some 47, none, .nilck (.tmp 46)⟩,
 ⟨some 48, none, .fad (.tmp 47) 3⟩,
 ⟨some 49, none, .fad (.tmp 48) 0⟩,
 ⟨some 50, none, .ld1 (.tmp 49)⟩,
 ⟨some 51, none, .mov (.tmp 8)⟩,
 ⟨some 52, none, .iad 7 (.tmp 50) (.tmp 51)⟩,
 ⟨some 53, none, .fad (.tmp 52) 1⟩,
 ⟨some 54, none, .ld1 (.tmp 53)⟩,
 ⟨some 55, none, .bin .add (.tmp 54) (.const (.int .i64 1))⟩,
 ⟨some 56, none, .iad 7 (.tmp 50) (.tmp 51)⟩,
 ⟨some 57, none, .fad (.tmp 56) 1⟩,
 ⟨none, none, .st 1 (.tmp 57) (.tmp 55)⟩])
 (.seq (.seq (.ops [⟨some 58, none, .fad (.tmp 9) 2⟩,
 ⟨some 59, none, .ld1 (.tmp 58)⟩])
 (.cond (.tmp 59)
 (.ops [⟨some 60, none, .mov (.tmp 2)⟩,
 ⟨some 61, none, .lits [(.int .i64 0)] 1 [(0, 1, (.const (.int .i64 (-1))))]⟩,
 ⟨some 62, none, .call (.func 182) [(.tmp 60), (.tmp 61)]⟩,
 ⟨some 2, none, .mov (.tmp 62)⟩])
 .skip))
 (.ops [⟨some 63, none, .fad (.tmp 9) 1⟩,
 ⟨some 64, none, .ld1 (.tmp 63)⟩,
 ⟨some 1, none, .mov (.tmp 64)⟩])))))))))
 (.seq (.ops [⟨some 65, none, .mkm⟩,
 ⟨none, none, .mup (.int .i64) (.tmp 65) (.const (.int .i64 18)) (.const (.int .i32 11))⟩,
 ⟨none, none, .mup (.int .i64) (.tmp 65) (.const (.int .i64 19)) (.const (.int .i32 14))⟩,
 ⟨none, none, .mup (.int .i64) (.tmp 65) (.const (.int .i64 22)) (.const (.int .i32 21))⟩,
 ⟨some 66, none, .mov (.tmp 65)⟩,
 ⟨some 67, none, .mov (.tmp 6)⟩,
 ⟨some 68, none, .lkp (.int .i64) (.int .i32 0) (.tmp 66) (.tmp 67) false⟩,
 ⟨some 11, none, .mov (.tmp 68)⟩])
 (.seq (.seq (.ops [⟨some 69, none, .mov (.tmp 11)⟩,
 ⟨some 70, none, .bin .gtr (.tmp 69) (.const (.int .i32 0))⟩,
 ⟨some 71, none, .mov (.tmp 70)⟩,
 ⟨some 72, (some (71, true)), .mov (.tmp 0)⟩,
 ⟨some 73, (some (71, true)), .nilck (.tmp 72)⟩,
 ⟨some 74, (some (71, true)), .fad (.tmp 73) 0⟩,
 ⟨some 75, (some (71, true)), .ld1 (.tmp 74)⟩,
 ⟨some 76, (some (71, true)), .mov (.tmp 1)⟩,
 ⟨some 77, (some (71, true)), .iad 6 (.tmp 75) (.tmp 76)⟩,
 ⟨some 78, (some (71, true)), .fad (.tmp 77) 4⟩,
 ⟨some 79, (some (71, true)), .ld1 (.tmp 78)⟩,
 ⟨some 80, (some (71, true)), .mov (.tmp 11)⟩,
 ⟨some 81, (some (71, true)), .bin .eql (.tmp 79) (.tmp 80)⟩,
 ⟨some 82, none, .pick (.tmp 71) (.tmp 81) (.const (.bool false))⟩])
 (.cond (.tmp 82)
 (.seq (.ops [⟨some 83, none, .mov (.tmp 0)⟩,
 ⟨some 84, none, .mov (.tmp 0)⟩,
 ⟨some 85, none, .mov (.tmp 1)⟩,
 ⟨some 86, none, .mov (.tmp 11)⟩,
 ⟨some 87, none, .call (.func 219) [(.tmp 84), (.tmp 85), (.tmp 86)]⟩,
 ⟨some 88, none, .mov (.tmp 2)⟩,
 ⟨some 89, none, .call (.func 86) [(.tmp 83), (.tmp 87), (.tmp 88)]⟩])
 (.seq (.ops [⟨some 90, none, .mov (.tmp 0)⟩,
 ⟨some 91, none, .nilck (.tmp 90)⟩,
 ⟨some 92, none, .fad (.tmp 91) 3⟩,
 ⟨some 93, none, .fad (.tmp 92) 0⟩,
 ⟨some 94, none, .ld1 (.tmp 93)⟩,
 ⟨some 95, none, .mov (.tmp 8)⟩,
 ⟨some 96, none, .iad 7 (.tmp 94) (.tmp 95)⟩,
 ⟨some 97, none, .fad (.tmp 96) 1⟩,
 ⟨some 98, none, .ld1 (.tmp 97)⟩,
 ⟨some 99, none, .bin .add (.tmp 98) (.const (.int .i64 1))⟩,
 ⟨some 100, none, .iad 7 (.tmp 94) (.tmp 95)⟩,
 ⟨some 101, none, .fad (.tmp 100) 1⟩,
 ⟨none, none, .st 1 (.tmp 101) (.tmp 99)⟩])
 .ret))
 .skip))
 (.seq (.ops [⟨some 102, none, .mov (.tmp 6)⟩])
 (.block 2 (.seq (.ops [⟨some 105, none, .bin .eql (.tmp 102) (.const (.int .i64 23))⟩,
 ⟨some 104, none, .mov (.tmp 105)⟩])
 (.cond (.tmp 104)
 (.draw [⟨some 106, none, .mov (.tmp 0)⟩,
 ⟨some 107, none, .nilck (.tmp 106)⟩,
 ⟨some 108, none, .fad (.tmp 107) 0⟩,
 ⟨some 109, none, .ld1 (.tmp 108)⟩,
 ⟨some 110, none, .mov (.tmp 0)⟩,
 ⟨some 111, none, .mov (.tmp 1)⟩,
 ⟨some 112, none, .call (.func 219) [(.tmp 110), (.tmp 111), (.const (.int .i32 32))]⟩,
 ⟨some 113, none, .iad 6 (.tmp 109) (.tmp 112)⟩,
 ⟨some 114, none, .fad (.tmp 113) 0⟩,
 ⟨some 115, none, .ld1 (.tmp 114)⟩,
 ⟨some 116, none, .bin .eql (.tmp 115) (.const (.int .i64 4))⟩,
 ⟨some 117, none, .call (.func 131) [(.tmp 116)]⟩] [(0, 4), (1, 4), (2, 4), (3, 4), (0, 5), (1, 5), (2, 5), (3, 5), (4, 5), (0, 6), (1, 6), (2, 6), (3, 6)])
 (.seq (.ops [⟨some 119, none, .bin .eql (.tmp 102) (.const (.int .i64 18))⟩,
 ⟨some 118, none, .mov (.tmp 119)⟩])
 (.cond (.tmp 118)
 (.seq (.ops [⟨some 120, none, .mov (.tmp 0)⟩,
 ⟨some 121, none, .nilck (.tmp 120)⟩,
 ⟨some 122, none, .fad (.tmp 121) 3⟩,
 ⟨some 123, none, .fad (.tmp 122) 0⟩,
 ⟨some 124, none, .ld1 (.tmp 123)⟩,
 ⟨some 125, none, .mov (.tmp 8)⟩,
 ⟨some 126, none, .iad 7 (.tmp 124) (.tmp 125)⟩,
 ⟨some 127, none, .fad (.tmp 126) 1⟩,
 ⟨some 128, none, .ld1 (.tmp 127)⟩,
 ⟨some 129, none, .bin .eql (.tmp 128) (.const (.int .i64 0))⟩,
 ⟨some 130, none, .call (.func 131) [(.tmp 129)]⟩])
 (.seq (.draw [⟨some 131, none, .mov (.tmp 0)⟩,
 ⟨some 132, none, .nilck (.tmp 131)⟩,
 ⟨some 133, none, .fad (.tmp 132) 0⟩,
 ⟨some 134, none, .ld1 (.tmp 133)⟩,
 ⟨some 135, none, .mov (.tmp 0)⟩,
 ⟨some 136, none, .mov (.tmp 1)⟩,
 ⟨some 137, none, .call (.func 219) [(.tmp 135), (.tmp 136), (.const (.int .i32 28))]⟩,
 ⟨some 138, none, .iad 6 (.tmp 134) (.tmp 137)⟩,
 ⟨some 139, none, .ld 6 (.tmp 138)⟩,
 ⟨some 12, none, .newz [(.int .i64 0), (.int .i64 0), (.int .i64 0), (.string ⟨#[]⟩), (.int .i32 0), (.int .i32 0)]⟩,
 ⟨none, none, .st 6 (.tmp 12) (.tmp 139)⟩] [(0, 4), (1, 4), (2, 4), (3, 4), (0, 5), (1, 5), (2, 5), (3, 5), (4, 5), (0, 6), (1, 6), (2, 6), (3, 6), (0, 9), (1, 9), (2, 9), (3, 9), (4, 9), (5, 9), (6, 9), (7, 9), (8, 9)])
 (.ops [⟨some 140, none, .fad (.tmp 12) 0⟩,
 ⟨some 141, none, .ld1 (.tmp 140)⟩,
 ⟨some 142, none, .bin .eql (.tmp 141) (.const (.int .i64 2))⟩,
 ⟨some 143, none, .mov (.tmp 142)⟩,
 ⟨some 144, (some (143, true)), .fad (.tmp 12) 2⟩,
 ⟨some 145, (some (143, true)), .ld1 (.tmp 144)⟩,
 ⟨some 146, (some (143, true)), .bin .eql (.tmp 145) (.const (.int .i64 1))⟩,
 ⟨some 147, none, .pick (.tmp 143) (.tmp 146) (.const (.bool false))⟩,
 ⟨some 148, none, .call (.func 131) [(.tmp 147)]⟩])))
 (.seq (.ops [⟨some 150, none, .bin .eql (.tmp 102) (.const (.int .i64 19))⟩,
 ⟨some 149, none, .mov (.tmp 150)⟩])
 (.cond (.tmp 149)
 (.seq (.ops [⟨some 151, none, .mov (.tmp 0)⟩,
 ⟨some 152, none, .nilck (.tmp 151)⟩,
 ⟨some 153, none, .fad (.tmp 152) 3⟩,
 ⟨some 154, none, .fad (.tmp 153) 0⟩,
 ⟨some 155, none, .ld1 (.tmp 154)⟩,
 ⟨some 156, none, .mov (.tmp 8)⟩,
 ⟨some 157, none, .iad 7 (.tmp 155) (.tmp 156)⟩,
 ⟨some 158, none, .fad (.tmp 157) 1⟩,
 ⟨some 159, none, .ld1 (.tmp 158)⟩,
 ⟨some 160, none, .bin .eql (.tmp 159) (.const (.int .i64 0))⟩,
 ⟨some 161, none, .call (.func 131) [(.tmp 160)]⟩])
 (.seq (.draw [⟨some 162, none, .mov (.tmp 0)⟩,
 ⟨some 163, none, .nilck (.tmp 162)⟩,
 ⟨some 164, none, .fad (.tmp 163) 0⟩,
 ⟨some 165, none, .ld1 (.tmp 164)⟩,
 ⟨some 166, none, .mov (.tmp 0)⟩,
 ⟨some 167, none, .mov (.tmp 1)⟩,
 ⟨some 168, none, .call (.func 219) [(.tmp 166), (.tmp 167), (.const (.int .i32 30))]⟩,
 ⟨some 169, none, .iad 6 (.tmp 165) (.tmp 168)⟩,
 ⟨some 170, none, .ld 6 (.tmp 169)⟩,
 ⟨some 13, none, .newz [(.int .i64 0), (.int .i64 0), (.int .i64 0), (.string ⟨#[]⟩), (.int .i32 0), (.int .i32 0)]⟩,
 ⟨none, none, .st 6 (.tmp 13) (.tmp 170)⟩] [(0, 4), (1, 4), (2, 4), (3, 4), (0, 5), (1, 5), (2, 5), (3, 5), (4, 5), (0, 6), (1, 6), (2, 6), (3, 6), (0, 9), (1, 9), (2, 9), (3, 9), (4, 9), (5, 9), (6, 9), (7, 9), (8, 9)])
 (.ops [⟨some 171, none, .fad (.tmp 13) 0⟩,
 ⟨some 172, none, .ld1 (.tmp 171)⟩,
 ⟨some 173, none, .bin .eql (.tmp 172) (.const (.int .i64 2))⟩,
 ⟨some 174, none, .mov (.tmp 173)⟩,
 ⟨some 175, (some (174, true)), .fad (.tmp 13) 2⟩,
 ⟨some 176, (some (174, true)), .ld1 (.tmp 175)⟩,
 ⟨some 177, (some (174, true)), .bin .eql (.tmp 176) (.const (.int .i64 0))⟩,
 ⟨some 178, none, .pick (.tmp 174) (.tmp 177) (.const (.bool false))⟩,
 ⟨some 179, none, .call (.func 131) [(.tmp 178)]⟩])))
 (.ops [⟨some 103, none, .call (.func 131) [(.const (.bool false))]⟩]))))))))))))))⟩
theorem ok180 : compF Tryz.prog Tryz.f180 = some c180 := by kernel_rfl
def c181 : CF := ⟨31, [.tmp 8],
 (.seq (.ops [⟨some 8, none, .mov (.const (.bool false))⟩])
 (.seq (.ops [⟨some 9, none, .mov (.tmp 0)⟩,
 ⟨some 10, none, .nilck (.tmp 9)⟩,
 ⟨some 11, none, .fad (.tmp 10) 0⟩,
 ⟨some 12, none, .ld1 (.tmp 11)⟩,
 ⟨some 13, none, .mov (.tmp 1)⟩,
 ⟨some 14, none, .iad 6 (.tmp 12) (.tmp 13)⟩,
 ⟨some 15, none, .fad (.tmp 14) 0⟩,
 ⟨some 16, none, .ld1 (.tmp 15)⟩,
 ⟨some 17, none, .mov (.tmp 2)⟩,
 ⟨some 18, none, .bin .eql (.tmp 16) (.tmp 17)⟩,
 ⟨some 19, none, .mov (.tmp 18)⟩,
 ⟨some 20, (some (19, true)), .mov (.tmp 0)⟩,
 ⟨some 21, (some (19, true)), .nilck (.tmp 20)⟩,
 ⟨some 22, (some (19, true)), .fad (.tmp 21) 0⟩,
 ⟨some 23, (some (19, true)), .ld1 (.tmp 22)⟩,
 ⟨some 24, (some (19, true)), .mov (.tmp 1)⟩,
 ⟨some 25, (some (19, true)), .iad 6 (.tmp 23) (.tmp 24)⟩,
 ⟨some 26, (some (19, true)), .fad (.tmp 25) 4⟩,
 ⟨some 27, (some (19, true)), .ld1 (.tmp 26)⟩,
 ⟨some 28, (some (19, true)), .mov (.tmp 3)⟩,
 ⟨some 29, (some (19, true)), .bin .eql (.tmp 27) (.tmp 28)⟩,
 ⟨some 30, none, .pick (.tmp 19) (.tmp 29) (.const (.bool false))⟩,
 ⟨some 8, none, .mov (.tmp 30)⟩])
 .ret))⟩
theorem ok181 : compF Tryz.prog Tryz.f181 = some c181 := by kernel_rfl
def c182 : CF := ⟨13, [.tmp 4],
 (.seq (.ops [⟨some 4, none, .mov (.const (.slice none 0 0))⟩])
 (.seq (.ops [⟨some 5, none, .mov (.tmp 0)⟩,
 ⟨some 6, none, .mov (.tmp 0)⟩,
 ⟨some 7, none, .lnl (.tmp 6)⟩,
 ⟨some 8, none, .mov (.tmp 0)⟩,
 ⟨some 9, none, .lnl (.tmp 8)⟩,
 ⟨some 10, none, .sl 1 (.tmp 5) none (some (.tmp 7)) (some (.tmp 9))⟩,
 ⟨some 11, none, .mov (.tmp 1)⟩,
 ⟨some 12, none, .app 1 8 none (.tmp 10) (.tmp 11)⟩,
 ⟨some 4, none, .mov (.tmp 12)⟩])
 .ret))⟩
theorem ok182 : compF Tryz.prog Tryz.f182 = some c182 := by kernel_rfl
def c183 : CF := ⟨25, [.tmp 4],
 (.seq (.ops [⟨some 4, none, .mov (.const (.int .i64 0))⟩])
 (.seq (.ops [⟨some 5, none, .mov (.tmp 0)⟩,
 ⟨some 6, none, .mov (.tmp 0)⟩,
 ⟨some 7, none, .nilck (.tmp 6)⟩,
 ⟨some 8, none, .fad (.tmp 7) 5⟩,
 ⟨some 9, none, .ld1 (.tmp 8)⟩,
 ⟨some 10, none, .agg [(.int .i64 0), (.int .i64 0), (.int .i64 0), (.string ⟨#[]⟩), (.int .i64 0), (.int .i64 0), (.int .i64 0)] [(0, 1, (.const (.int .i64 9))), (2, 1, (.tmp 9)), (3, 1, (.const (.string ⟨#[118]⟩)))]⟩,
 ⟨some 11, none, .mov (.tmp 1)⟩,
 ⟨some 12, none, .call (.func 135) [(.tmp 5), (.tmp 10), (.tmp 11)]⟩])
 (.seq (.ops [⟨some 13, none, .mov (.tmp 0)⟩,
 ⟨some 14, none, .nilck (.tmp 13)⟩,
 ⟨some 15, none, .fad (.tmp 14) 5⟩,
 ⟨some 16, none, .ld1 (.tmp 15)⟩,
 ⟨some 17, none, .bin .add (.tmp 16) (.const (.int .i64 1))⟩,
 ⟨some 18, none, .nilck (.tmp 13)⟩,
 ⟨some 19, none, .fad (.tmp 18) 5⟩,
 ⟨none, none, .st 1 (.tmp 19) (.tmp 17)⟩])
 (.seq (.ops [⟨some 20, none, .mov (.tmp 0)⟩,
 ⟨some 21, none, .nilck (.tmp 20)⟩,
 ⟨some 22, none, .fad (.tmp 21) 5⟩,
 ⟨some 23, none, .ld1 (.tmp 22)⟩,
 ⟨some 24, none, .bin .sub (.tmp 23) (.const (.int .i64 1))⟩,
 ⟨some 4, none, .mov (.tmp 24)⟩])
 .ret))))⟩
theorem ok183 : compF Tryz.prog Tryz.f183 = some c183 := by kernel_rfl
def c184 : CF := ⟨49, [.tmp 8],
 (.seq (.ops [⟨some 8, none, .mov (.const (.slice none 0 0))⟩])
 (.seq (.ops [⟨some 11, none, .mov (.tmp 1)⟩,
 ⟨some 12, none, .iad 6 (.tmp 11) (.const (.int .i64 0))⟩,
 ⟨some 13, none, .ld 6 (.tmp 12)⟩,
 ⟨some 9, none, .newz [(.int .i64 0), (.int .i64 0), (.int .i64 0), (.string ⟨#[]⟩), (.int .i32 0), (.int .i32 0)]⟩,
 ⟨none, none, .st 6 (.tmp 9) (.tmp 13)⟩])
 (.seq (.ops [⟨some 14, none, .mov (.tmp 1)⟩,
 ⟨some 15, none, .sl 6 (.tmp 14) (some (.const (.int .i64 1))) none none⟩,
 ⟨some 1, none, .mov (.tmp 15)⟩])
 (.seq (.seq (.ops [⟨some 16, none, .fad (.tmp 9) 0⟩,
 ⟨some 17, none, .ld1 (.tmp 16)⟩,
 ⟨some 18, none, .bin .eql (.tmp 17) (.const (.int .i64 7))⟩])
 (.cond (.tmp 18)
 (.seq (.ops [⟨some 19, none, .mov (.tmp 3)⟩,
 ⟨some 20, none, .ld 6 (.tmp 9)⟩,
 ⟨some 21, none, .mov (.tmp 2)⟩,
 ⟨some 22, none, .call (.tmp 19) [(.tmp 20), (.tmp 21)]⟩])
 (.seq (.ops [⟨some 23, none, .mov (.tmp 1)⟩,
 ⟨some 8, none, .mov (.tmp 23)⟩])
 .ret))
 .skip))
 (.seq (.ops [⟨some 24, none, .mov (.tmp 0)⟩,
 ⟨some 25, none, .ld 6 (.tmp 9)⟩,
 ⟨some 26, none, .call (.func 138) [(.tmp 24), (.tmp 25)]⟩])
 (.seq (.seq (.ops [⟨some 10, none, .mov (.const (.int .i64 0))⟩])
 (.block 0 (.loop (.seq (.seq (.ops [⟨some 27, none, .mov (.tmp 10)⟩,
 ⟨some 28, none, .fad (.tmp 9) 1⟩,
 ⟨some 29, none, .ld1 (.tmp 28)⟩,
 ⟨some 30, none, .bin .lss (.tmp 27) (.tmp 29)⟩,
 ⟨some 31, none, .mov (.tmp 30)⟩,
 ⟨some 32, (some (31, true)), .mov (.tmp 0)⟩,
 ⟨some 33, (some (31, true)), .nilck (.tmp 32)⟩,
 ⟨some 34, (some (31, true)), .fad (.tmp 33) 2⟩,
 ⟨some 35, (some (31, true)), .ld1 (.tmp 34)⟩,
 ⟨some 36, (some (31, true)), .bin .eql (.tmp 35) (.const (.int .i64 0))⟩,
 ⟨some 37, none, .pick (.tmp 31) (.tmp 36) (.const (.bool false))⟩])
 (.cond (.tmp 37)
 .skip
 (.exit 0)))
 (.seq (.block 1 (.ops [⟨some 40, none, .mov (.tmp 0)⟩,
 ⟨some 41, none, .mov (.tmp 1)⟩,
 ⟨some 42, none, .mov (.tmp 2)⟩,
 ⟨some 43, none, .ld 6 (.tmp 9)⟩,
 ⟨some 44, none, .call (.func 222) [(.tmp 43)]⟩,
 ⟨some 45, none, .bin .add (.tmp 42) (.tmp 44)⟩,
 ⟨some 46, none, .mov (.tmp 3)⟩,
 ⟨some 47, none, .call (.func 184) [(.tmp 40), (.tmp 41), (.tmp 45), (.tmp 46)]⟩,
 ⟨some 1, none, .mov (.tmp 47)⟩]))
 (.ops [⟨some 38, none, .mov (.tmp 10)⟩,
 ⟨some 39, none, .bin .add (.tmp 38) (.const (.int .i64 1))⟩,
 ⟨some 10, none, .mov (.tmp 39)⟩]))))))
 (.seq (.ops [⟨some 48, none, .mov (.tmp 1)⟩,
 ⟨some 8, none, .mov (.tmp 48)⟩])
 .ret)))))))⟩
theorem ok184 : compF Tryz.prog Tryz.f184 = some c184 := by kernel_rfl
def c185 : CF := ⟨21, [],
 (.seq (.ops [⟨some 5, none, .box (.tmp 0)⟩])
 (.seq (.seq (.ops [⟨some 7, none, .fad (.tmp 5) 2⟩,
 ⟨some 8, none, .ld1 (.tmp 7)⟩,
 ⟨some 9, none, .mov (.tmp 1)⟩,
 ⟨some 10, none, .bin .sub (.tmp 8) (.tmp 9)⟩,
 ⟨some 11, none, .ld1 (.tmp 2)⟩,
 ⟨some 12, none, .bin .geq (.tmp 10) (.tmp 11)⟩])
 (.cond (.tmp 12)
 (.ops [⟨some 13, none, .fad (.tmp 5) 2⟩,
 ⟨some 14, none, .ld1 (.tmp 13)⟩,
 ⟨some 15, none, .ld1 (.tmp 3)⟩,
 ⟨some 16, none, .bin .add (.tmp 14) (.tmp 15)⟩,
 ⟨some 17, none, .fad (.tmp 5) 2⟩,
 ⟨none, none, .st 1 (.tmp 17) (.tmp 16)⟩])
 .skip))
 (.ops [⟨some 18, none, .ld1 (.tmp 4)⟩,
 ⟨some 19, none, .ld 6 (.tmp 5)⟩,
 ⟨some 20, none, .call (.func 138) [(.tmp 18), (.tmp 19)]⟩])))⟩
theorem ok185 : compF Tryz.prog Tryz.f185 = some c185 := by kernel_rfl
def c186 : CF := ⟨39, [],
 (.seq (.ops [⟨some 5, none, .box (.tmp 0)⟩])
 (.seq (.seq (.ops [⟨some 8, none, .fad (.tmp 5) 2⟩,
 ⟨some 9, none, .ld1 (.tmp 8)⟩,
 ⟨some 10, none, .mov (.tmp 1)⟩,
 ⟨some 11, none, .bin .sub (.tmp 9) (.tmp 10)⟩,
 ⟨some 7, none, .mov (.tmp 11)⟩])
 (.block 0 (.seq (.ops [⟨some 18, none, .mov (.tmp 7)⟩,
 ⟨some 19, none, .bin .lss (.tmp 18) (.const (.int .i64 0))⟩,
 ⟨some 20, none, .mov (.tmp 19)⟩,
 ⟨some 21, (some (20, false)), .mov (.tmp 7)⟩,
 ⟨some 22, (some (20, false)), .ld1 (.tmp 2)⟩,
 ⟨some 23, (some (20, false)), .ld1 (.tmp 3)⟩,
 ⟨some 24, (some (20, false)), .bin .add (.tmp 22) (.tmp 23)⟩,
 ⟨some 25, (some (20, false)), .bin .geq (.tmp 21) (.tmp 24)⟩,
 ⟨some 26, none, .pick (.tmp 20) (.const (.bool true)) (.tmp 25)⟩,
 ⟨some 17, none, .mov (.tmp 26)⟩])
 (.cond (.tmp 17)
 .skip
 (.seq (.ops [⟨some 28, none, .mov (.tmp 7)⟩,
 ⟨some 29, none, .ld1 (.tmp 2)⟩,
 ⟨some 30, none, .bin .lss (.tmp 28) (.tmp 29)⟩,
 ⟨some 27, none, .mov (.tmp 30)⟩])
 (.cond (.tmp 27)
 (.ops [⟨some 31, none, .fad (.tmp 5) 2⟩,
 ⟨some 32, none, .ld1 (.tmp 31)⟩,
 ⟨some 33, none, .ld1 (.tmp 3)⟩,
 ⟨some 34, none, .bin .add (.tmp 32) (.tmp 33)⟩,
 ⟨some 35, none, .fad (.tmp 5) 2⟩,
 ⟨none, none, .st 1 (.tmp 35) (.tmp 34)⟩])
 (.ops [⟨some 12, none, .fad (.tmp 5) 2⟩,
 ⟨some 13, none, .ld1 (.tmp 12)⟩,
 ⟨some 14, none, .ld1 (.tmp 2)⟩,
 ⟨some 15, none, .bin .sub (.tmp 13) (.tmp 14)⟩,
 ⟨some 16, none, .fad (.tmp 5) 2⟩,
 ⟨none, none, .st 1 (.tmp 16) (.tmp 15)⟩])))))))
 (.ops [⟨some 36, none, .ld1 (.tmp 4)⟩,
 ⟨some 37, none, .ld 6 (.tmp 5)⟩,
 ⟨some 38, none, .call (.func 138) [(.tmp 36), (.tmp 37)]⟩])))⟩
theorem ok186 : compF Tryz.prog Tryz.f186 = some c186 := by kernel_rfl
end Go.Proofs.YtiblfhiiombfcaaGreatDoor.code
