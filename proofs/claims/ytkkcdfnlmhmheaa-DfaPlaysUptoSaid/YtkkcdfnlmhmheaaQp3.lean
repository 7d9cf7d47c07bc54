/- Texts that the claim leans on, joined: MvTab, MkA, MkB, MkC, MkD, MkSortN, MkSort, MkE, MkF, MkG, MkS, MvIterS, TbA, TbB, TbC, TbL, TbM, TbN, TbD, TbE, TbF, TbG, TbH, TbI, TbJ, TbO, TbK, TbS, MvGen, MvMap, DfA. -/
import Derived.Test.YtkkcdfnlmhmheaaQp2
import Derived.Test.YtkkcdfnlmhmheaaProg
import Derived.KernelRfl
import Derived.Shelf.Sort.AssemblyIn
import Derived.Sort.EveryDepth
import Derived.Laws.RangeString
import Derived.Laws.Runes
import Derived.Lib.UnsafeStr
import Derived.Lib.Builder
import Derived.MapKept
/- The table of types of this seat's translation, the functions with bodies, and where the tails of regions that draw their order begin. Written by a program of this session. -/
namespace Go.Proofs.Ytkkcdfnlmhmheaa
open Go Go.Mv
def tbl : Tbl := [
  (1, ⟨.func, 1, 8, .cells [.nilFunc], false⟩),
  (2, ⟨.int .i64, 1, 8, .cells [.int .i64 0], false⟩),
  (3, ⟨.int .i64, 1, 8, .cells [.int .i64 0], false⟩),
  (4, ⟨.bool, 1, 1, .cells [.bool false], false⟩),
  (5, ⟨.int .u8, 1, 1, .cells [.int .u8 0], false⟩),
  (6, ⟨.int .u8, 1, 1, .cells [.int .u8 0], false⟩),
  (7, ⟨.struct [(0, 2), (1, 3), (2, 4), (3, 6)], 4, 24, .cells [.int .i64 0, .int .i64 0, .bool false, .int .u8 0], true⟩),
  (8, ⟨.struct [(0, 2), (1, 3), (2, 4), (3, 6)], 4, 24, .cells [.int .i64 0, .int .i64 0, .bool false, .int .u8 0], true⟩),
  (9, ⟨.str, 1, 16, .cells [.string ⟨#[]⟩], false⟩),
  (10, ⟨.str, 1, 16, .cells [.string ⟨#[]⟩], false⟩),
  (11, ⟨.str, 1, 16, .cells [.string ⟨#[]⟩], false⟩),
  (12, ⟨.int .u64, 1, 8, .cells [.int .u64 0], false⟩),
  (13, ⟨.struct [(0, 9), (1, 12)], 2, 24, .cells [.string ⟨#[]⟩, .int .u64 0], false⟩),
  (14, ⟨.struct [(0, 9), (1, 12)], 2, 24, .cells [.string ⟨#[]⟩, .int .u64 0], false⟩),
  (15, ⟨.ptr, 1, 8, .cells [.pointer none], false⟩),
  (16, ⟨.ptr, 1, 8, .cells [.pointer none], false⟩),
  (17, ⟨.ptr, 1, 8, .cells [.pointer none], false⟩),
  (18, ⟨.struct [(0, 17)], 1, 8, .cells [.pointer none], false⟩),
  (19, ⟨.struct [(0, 17)], 1, 8, .cells [.pointer none], false⟩),
  (20, ⟨.one, 1, 16, .cells [.nilIface], false⟩),
  (21, ⟨.int .i32, 1, 4, .cells [.int .i32 0], false⟩),
  (22, ⟨.slice 46, 1, 24, .cells [.slice none 0 0], false⟩),
  (23, ⟨.struct [(0, 22), (1, 3), (2, 3), (3, 4)], 4, 48, .cells [.slice none 0 0, .int .i64 0, .int .i64 0, .bool false], false⟩),
  (24, ⟨.struct [(0, 22), (1, 3), (2, 3), (3, 4)], 4, 48, .cells [.slice none 0 0, .int .i64 0, .int .i64 0, .bool false], false⟩),
  (25, ⟨.slice 33, 1, 24, .cells [.slice none 0 0], false⟩),
  (26, ⟨.func, 1, 8, .cells [.nilFunc], false⟩),
  (27, ⟨.ptr, 1, 8, .cells [.pointer none], false⟩),
  (28, ⟨.int .i64, 1, 8, .cells [.int .i64 0], false⟩),
  (30, ⟨.func, 1, 8, .cells [.nilFunc], false⟩),
  (31, ⟨.func, 1, 8, .cells [.nilFunc], false⟩),
  (32, ⟨.struct [(0, 3), (1, 9), (2, 3), (3, 4)], 4, 40, .cells [.int .i64 0, .string ⟨#[]⟩, .int .i64 0, .bool false], false⟩),
  (33, ⟨.struct [(0, 3), (1, 9), (2, 3), (3, 4)], 4, 40, .cells [.int .i64 0, .string ⟨#[]⟩, .int .i64 0, .bool false], false⟩),
  (35, ⟨.func, 1, 8, .cells [.nilFunc], false⟩),
  (36, ⟨.slice 3, 1, 24, .cells [.slice none 0 0], false⟩),
  (38, ⟨.func, 1, 8, .cells [.nilFunc], false⟩),
  (39, ⟨.func, 1, 8, .cells [.nilFunc], false⟩),
  (40, ⟨.func, 1, 8, .cells [.nilFunc], false⟩),
  (41, ⟨.func, 1, 8, .cells [.nilFunc], false⟩),
  (42, ⟨.int .u64, 1, 8, .cells [.int .u64 0], false⟩),
  (43, ⟨.arr 4 42, 4, 32, .ints .u64 [0, 0, 0, 0], true⟩),
  (44, ⟨.arr 4 42, 4, 32, .ints .u64 [0, 0, 0, 0], true⟩),
  (45, ⟨.struct [(0, 3), (1, 3), (2, 3), (3, 3), (4, 3), (5, 3), (6, 44)], 10, 80, .cells [.int .i64 0, .int .i64 0, .int .i64 0, .int .i64 0, .int .i64 0, .int .i64 0, .int .u64 0, .int .u64 0, .int .u64 0, .int .u64 0], false⟩),
  (46, ⟨.struct [(0, 3), (1, 3), (2, 3), (3, 3), (4, 3), (5, 3), (6, 44)], 10, 80, .cells [.int .i64 0, .int .i64 0, .int .i64 0, .int .i64 0, .int .i64 0, .int .i64 0, .int .u64 0, .int .u64 0, .int .u64 0, .int .u64 0], false⟩),
  (47, ⟨.func, 1, 8, .cells [.nilFunc], false⟩),
  (48, ⟨.func, 1, 8, .cells [.nilFunc], false⟩),
  (49, ⟨.func, 1, 8, .cells [.nilFunc], false⟩),
  (50, ⟨.func, 1, 8, .cells [.nilFunc], false⟩),
  (51, ⟨.func, 1, 8, .cells [.nilFunc], false⟩),
  (52, ⟨.func, 1, 8, .cells [.nilFunc], false⟩),
  (53, ⟨.func, 1, 8, .cells [.nilFunc], false⟩),
  (55, ⟨.func, 1, 8, .cells [.nilFunc], false⟩),
  (56, ⟨.func, 1, 8, .cells [.nilFunc], false⟩),
  (57, ⟨.func, 1, 8, .cells [.nilFunc], false⟩),
  (58, ⟨.one, 1, 8, .cells [.map none], false⟩),
  (59, ⟨.slice 82, 1, 24, .cells [.slice none 0 0], false⟩),
  (60, ⟨.ptr, 1, 8, .cells [.pointer none], false⟩),
  (61, ⟨.ptr, 1, 8, .cells [.pointer none], false⟩),
  (62, ⟨.struct [(0, 24), (4, 3), (5, 59), (6, 58), (7, 60), (8, 61), (9, 36), (10, 3), (11, 3)], 12, 144, .cells [.slice none 0 0, .int .i64 0, .int .i64 0, .bool false, .int .i64 0, .slice none 0 0, .map none, .pointer none, .pointer none, .slice none 0 0, .int .i64 0, .int .i64 0], false⟩),
  (63, ⟨.struct [(0, 24), (4, 3), (5, 59), (6, 58), (7, 60), (8, 61), (9, 36), (10, 3), (11, 3)], 12, 144, .cells [.slice none 0 0, .int .i64 0, .int .i64 0, .bool false, .int .i64 0, .slice none 0 0, .map none, .pointer none, .pointer none, .slice none 0 0, .int .i64 0, .int .i64 0], false⟩),
  (65, ⟨.func, 1, 8, .cells [.nilFunc], false⟩),
  (67, ⟨.func, 1, 8, .cells [.nilFunc], false⟩),
  (68, ⟨.func, 1, 8, .cells [.nilFunc], false⟩),
  (69, ⟨.func, 1, 8, .cells [.nilFunc], false⟩),
  (71, ⟨.func, 1, 8, .cells [.nilFunc], false⟩),
  (72, ⟨.func, 1, 8, .cells [.nilFunc], false⟩),
  (73, ⟨.func, 1, 8, .cells [.nilFunc], false⟩),
  (74, ⟨.slice 106, 1, 24, .cells [.slice none 0 0], false⟩),
  (75, ⟨.struct [(0, 3), (1, 3), (2, 74), (3, 3)], 4, 48, .cells [.int .i64 0, .int .i64 0, .slice none 0 0, .int .i64 0], false⟩),
  (76, ⟨.struct [(0, 3), (1, 3), (2, 74), (3, 3)], 4, 48, .cells [.int .i64 0, .int .i64 0, .slice none 0 0, .int .i64 0], false⟩),
  (77, ⟨.slice 21, 1, 24, .cells [.slice none 0 0], false⟩),
  (78, ⟨.struct [(0, 77), (1, 77)], 2, 48, .cells [.slice none 0 0, .slice none 0 0], false⟩),
  (79, ⟨.struct [(0, 77), (1, 77)], 2, 48, .cells [.slice none 0 0, .slice none 0 0], false⟩),
  (80, ⟨.func, 1, 8, .cells [.nilFunc], false⟩),
  (81, ⟨.struct [(0, 36), (1, 4), (2, 4), (3, 4)], 4, 32, .cells [.slice none 0 0, .bool false, .bool false, .bool false], false⟩),
  (82, ⟨.struct [(0, 36), (1, 4), (2, 4), (3, 4)], 4, 32, .cells [.slice none 0 0, .bool false, .bool false, .bool false], false⟩),
  (83, ⟨.func, 1, 8, .cells [.nilFunc], false⟩),
  (84, ⟨.slice 86, 1, 24, .cells [.slice none 0 0], false⟩),
  (85, ⟨.func, 1, 8, .cells [.nilFunc], false⟩),
  (86, ⟨.slice 3, 1, 24, .cells [.slice none 0 0], false⟩),
  (87, ⟨.func, 1, 8, .cells [.nilFunc], false⟩),
  (88, ⟨.func, 1, 8, .cells [.nilFunc], false⟩),
  (89, ⟨.struct [(0, 4), (1, 4), (2, 4), (3, 4), (4, 4), (5, 4)], 6, 6, .cells [.bool false, .bool false, .bool false, .bool false, .bool false, .bool false], true⟩),
  (90, ⟨.struct [(0, 4), (1, 4), (2, 4), (3, 4), (4, 4), (5, 4)], 6, 6, .cells [.bool false, .bool false, .bool false, .bool false, .bool false, .bool false], true⟩),
  (92, ⟨.func, 1, 8, .cells [.nilFunc], false⟩),
  (93, ⟨.func, 1, 8, .cells [.nilFunc], false⟩),
  (94, ⟨.func, 1, 8, .cells [.nilFunc], false⟩),
  (96, ⟨.func, 1, 8, .cells [.nilFunc], false⟩),
  (97, ⟨.func, 1, 8, .cells [.nilFunc], false⟩),
  (98, ⟨.func, 1, 8, .cells [.nilFunc], false⟩),
  (99, ⟨.func, 1, 8, .cells [.nilFunc], false⟩),
  (100, ⟨.struct [(0, 4), (1, 4), (2, 4), (3, 4), (4, 4), (5, 4)], 6, 6, .cells [.bool false, .bool false, .bool false, .bool false, .bool false, .bool false], true⟩),
  (101, ⟨.struct [(0, 4), (1, 4), (2, 4), (3, 4), (4, 4), (5, 4)], 6, 6, .cells [.bool false, .bool false, .bool false, .bool false, .bool false, .bool false], true⟩),
  (103, ⟨.func, 1, 8, .cells [.nilFunc], false⟩),
  (104, ⟨.slice 4, 1, 24, .cells [.slice none 0 0], false⟩),
  (105, ⟨.struct [(0, 4), (1, 42), (2, 36), (3, 3)], 4, 48, .cells [.bool false, .int .u64 0, .slice none 0 0, .int .i64 0], false⟩),
  (106, ⟨.struct [(0, 4), (1, 42), (2, 36), (3, 3)], 4, 48, .cells [.bool false, .int .u64 0, .slice none 0 0, .int .i64 0], false⟩),
  (107, ⟨.func, 1, 8, .cells [.nilFunc], false⟩),
  (108, ⟨.func, 1, 8, .cells [.nilFunc], false⟩),
  (109, ⟨.func, 1, 8, .cells [.nilFunc], false⟩),
  (110, ⟨.func, 1, 8, .cells [.nilFunc], false⟩),
  (111, ⟨.func, 1, 8, .cells [.nilFunc], false⟩),
  (112, ⟨.func, 1, 8, .cells [.nilFunc], false⟩),
  (113, ⟨.func, 1, 8, .cells [.nilFunc], false⟩),
  (114, ⟨.int .u64, 1, 8, .cells [.int .u64 0], false⟩),
  (115, ⟨.func, 1, 8, .cells [.nilFunc], false⟩),
  (116, ⟨.func, 1, 8, .cells [.nilFunc], false⟩),
  (117, ⟨.ptr, 1, 8, .cells [.pointer none], false⟩),
  (118, ⟨.slice 5, 1, 24, .cells [.slice none 0 0], false⟩),
  (119, ⟨.func, 1, 8, .cells [.nilFunc], false⟩),
  (120, ⟨.func, 1, 8, .cells [.nilFunc], false⟩),
  (121, ⟨.func, 1, 8, .cells [.nilFunc], false⟩),
  (122, ⟨.func, 1, 8, .cells [.nilFunc], false⟩),
  (123, ⟨.func, 1, 8, .cells [.nilFunc], false⟩),
  (124, ⟨.int .i64, 1, 8, .cells [.int .i64 0], false⟩),
  (126, ⟨.func, 1, 8, .cells [.nilFunc], false⟩),
  (127, ⟨.func, 1, 8, .cells [.nilFunc], false⟩),
  (128, ⟨.func, 1, 8, .cells [.nilFunc], false⟩),
  (129, ⟨.func, 1, 8, .cells [.nilFunc], false⟩),
  (130, ⟨.func, 1, 8, .cells [.nilFunc], false⟩),
  (131, ⟨.func, 1, 8, .cells [.nilFunc], false⟩),
  (132, ⟨.int .u32, 1, 4, .cells [.int .u32 0], false⟩),
  (133, ⟨.func, 1, 8, .cells [.nilFunc], false⟩),
  (134, ⟨.int .u64, 1, 8, .cells [.int .u64 0], false⟩),
  (135, ⟨.func, 1, 8, .cells [.nilFunc], false⟩),
  (136, ⟨.func, 1, 8, .cells [.nilFunc], false⟩),
  (137, ⟨.func, 1, 8, .cells [.nilFunc], false⟩),
  (138, ⟨.ptr, 1, 8, .cells [.pointer none], false⟩),
  (139, ⟨.func, 1, 8, .cells [.nilFunc], false⟩),
  (140, ⟨.ptr, 1, 8, .cells [.pointer none], false⟩),
  (141, ⟨.func, 1, 8, .cells [.nilFunc], false⟩),
  (142, ⟨.struct [(0, 17), (1, 17), (2, 17), (3, 9)], 4, 40, .cells [.pointer none, .pointer none, .pointer none, .string ⟨#[]⟩], false⟩),
  (143, ⟨.struct [(0, 17), (1, 17), (2, 17), (3, 9)], 4, 40, .cells [.pointer none, .pointer none, .pointer none, .string ⟨#[]⟩], false⟩),
  (144, ⟨.arr 0 16, 0, 0, .cells [], false⟩),
  (145, ⟨.struct [(0, 144)], 0, 0, .cells [], false⟩),
  (146, ⟨.struct [(0, 144)], 0, 0, .cells [], false⟩),
  (147, ⟨.int .u8, 1, 1, .cells [.int .u8 0], false⟩),
  (148, ⟨.int .u8, 1, 1, .cells [.int .u8 0], false⟩),
  (149, ⟨.func, 1, 8, .cells [.nilFunc], false⟩),
  (150, ⟨.ptr, 1, 8, .cells [.pointer none], false⟩),
  (151, ⟨.int .i32, 1, 4, .cells [.int .i32 0], false⟩),
  (152, ⟨.int .i32, 1, 4, .cells [.int .i32 0], false⟩),
  (153, ⟨.struct [(0, 12), (1, 12), (2, 132), (3, 147), (4, 5), (5, 5), (6, 148), (7, 149), (8, 150), (9, 151), (10, 152)], 11, 48, .cells [.int .u64 0, .int .u64 0, .int .u32 0, .int .u8 0, .int .u8 0, .int .u8 0, .int .u8 0, .nilFunc, .pointer none, .int .i32 0, .int .i32 0], false⟩),
  (154, ⟨.struct [(0, 12), (1, 12), (2, 132), (3, 147), (4, 5), (5, 5), (6, 148), (7, 149), (8, 150), (9, 151), (10, 152)], 11, 48, .cells [.int .u64 0, .int .u64 0, .int .u32 0, .int .u8 0, .int .u8 0, .int .u8 0, .int .u8 0, .nilFunc, .pointer none, .int .i32 0, .int .i32 0], false⟩)]
set_option maxRecDepth 100000 in
theorem tbl_ok : tbl.ok Try.prog = true := by kernel_rfl
def bodies : List Nat := [3, 4, 5, 6, 7, 8, 9, 10, 11, 12, 13, 14, 15, 16, 17, 18, 19, 20, 21, 22, 23, 24, 25, 26, 27, 28, 29, 30, 31, 32, 33, 34, 35, 36, 37, 38, 39, 40, 41, 42, 43, 44, 45, 46, 47, 48, 49, 50, 51, 52, 53, 54, 55, 56, 57, 58, 59, 60, 61, 62, 63, 64, 65, 66, 67, 68, 69, 70, 71, 72, 73, 74, 75, 76, 77, 78, 79, 80, 81, 82, 83, 84, 85, 86, 87, 88, 89, 90]
theorem bodies_ok : bodiesOk Try.prog bodies = true := by kernel_rfl
theorem mixed : Try.prog.follows .mixedOrders = true := by kernel_rfl
noncomputable abbrev code3 : Code := Try.f3.body.getD .skip
def dr3 : List (Nat × DE) := [(2, .s (.one 1 [2, 3, 4, 5, 6, 7, 8, 9] (.fork 0 (.one 2 [] (.one 3 [4, 5, 6, 7, 8, 9] (.one 4 [] (.one 5 [6, 7, 8, 9] (.one 6 [8, 9] (.one 7 [9] (.one 8 [9] (.one 9 [] (.done))))))))) (.fork 2 (.one 3 [4, 5, 6, 7, 8, 9] (.one 0 [4, 5, 6, 7, 8, 9] (.one 4 [] (.one 5 [6, 7, 8, 9] (.one 6 [8, 9] (.one 7 [9] (.one 8 [9] (.one 9 [] (.done))))))))) (.stop))))), (3, .s (.one 1 [2, 3, 4, 5, 6, 7, 8, 9] (.fork 0 (.one 2 [] (.one 3 [4, 5, 6, 7, 8, 9] (.one 4 [] (.one 5 [6, 7, 8, 9] (.one 6 [8, 9] (.one 7 [9] (.one 8 [9] (.one 9 [] (.done))))))))) (.fork 2 (.one 3 [4, 5, 6, 7, 8, 9] (.one 0 [4, 5, 6, 7, 8, 9] (.one 4 [] (.one 5 [6, 7, 8, 9] (.one 6 [8, 9] (.one 7 [9] (.one 8 [9] (.one 9 [] (.done))))))))) (.stop))))), (26, 13)]
noncomputable abbrev code4 : Code := Try.f4.body.getD .skip
def dr4 : List (Nat × DE) := []
noncomputable abbrev code5 : Code := Try.f5.body.getD .skip
def dr5 : List (Nat × DE) := [(2, .s (.one 1 [2, 3, 4, 5, 6, 7, 8, 9] (.fork 0 (.one 2 [] (.one 3 [4, 5, 6, 7, 8, 9] (.one 4 [] (.one 5 [6, 7, 8, 9] (.one 6 [8, 9] (.one 7 [9] (.one 8 [9] (.one 9 [] (.done))))))))) (.fork 2 (.one 3 [4, 5, 6, 7, 8, 9] (.one 0 [4, 5, 6, 7, 8, 9] (.one 4 [] (.one 5 [6, 7, 8, 9] (.one 6 [8, 9] (.one 7 [9] (.one 8 [9] (.one 9 [] (.done))))))))) (.stop))))), (22, 10)]
noncomputable abbrev code6 : Code := Try.f6.body.getD .skip
def dr6 : List (Nat × DE) := [(2, .s (.one 1 [2, 3, 4, 5, 6, 7, 8, 9] (.fork 0 (.one 2 [] (.one 3 [4, 5, 6, 7, 8, 9] (.one 4 [] (.one 5 [6, 7, 8, 9] (.one 6 [8, 9] (.one 7 [9] (.one 8 [9] (.one 9 [] (.done))))))))) (.fork 2 (.one 3 [4, 5, 6, 7, 8, 9] (.one 0 [4, 5, 6, 7, 8, 9] (.one 4 [] (.one 5 [6, 7, 8, 9] (.one 6 [8, 9] (.one 7 [9] (.one 8 [9] (.one 9 [] (.done))))))))) (.stop)))))]
noncomputable abbrev code7 : Code := Try.f7.body.getD .skip
def dr7 : List (Nat × DE) := []
noncomputable abbrev code8 : Code := Try.f8.body.getD .skip
def dr8 : List (Nat × DE) := []
noncomputable abbrev code9 : Code := Try.f9.body.getD .skip
def dr9 : List (Nat × DE) := []
noncomputable abbrev code10 : Code := Try.f10.body.getD .skip
def dr10 : List (Nat × DE) := []
noncomputable abbrev code11 : Code := Try.f11.body.getD .skip
def dr11 : List (Nat × DE) := []
noncomputable abbrev code12 : Code := Try.f12.body.getD .skip
def dr12 : List (Nat × DE) := [(4, .s (.one 0 [2, 3, 4] (.fork 1 (.one 2 [] (.one 3 [] (.one 4 [] (.done)))) (.fork 2 (.one 1 [3, 4] (.one 3 [] (.one 4 [] (.done)))) (.stop)))))]
noncomputable abbrev code13 : Code := Try.f13.body.getD .skip
def dr13 : List (Nat × DE) := [(4, .s (.one 0 [2, 3, 4] (.fork 1 (.one 2 [] (.one 3 [] (.one 4 [] (.done)))) (.fork 2 (.one 1 [3, 4] (.one 3 [] (.one 4 [] (.done)))) (.stop)))))]
noncomputable abbrev code14 : Code := Try.f14.body.getD .skip
def dr14 : List (Nat × DE) := []
noncomputable abbrev code15 : Code := Try.f15.body.getD .skip
def dr15 : List (Nat × DE) := [(6, 8)]
noncomputable abbrev code16 : Code := Try.f16.body.getD .skip
def dr16 : List (Nat × DE) := []
noncomputable abbrev code17 : Code := Try.f17.body.getD .skip
def dr17 : List (Nat × DE) := []
noncomputable abbrev code18 : Code := Try.f18.body.getD .skip
def dr18 : List (Nat × DE) := []
noncomputable abbrev code19 : Code := Try.f19.body.getD .skip
def dr19 : List (Nat × DE) := []
noncomputable abbrev code20 : Code := Try.f20.body.getD .skip
def dr20 : List (Nat × DE) := [(9, .s (.one 1 [2, 3, 6, 7, 8] (.one 4 [5, 6, 7, 8] (.one 0 [3, 6, 7, 8] (.one 2 [3, 6, 7, 8] (.fork 3 (.one 5 [6, 7, 8] (.one 6 [7, 8] (.one 7 [8] (.one 8 [] (.done))))) (.fork 5 (.one 3 [] (.one 6 [7, 8] (.one 7 [8] (.one 8 [] (.done))))) (.stop))))))))]
noncomputable abbrev code21 : Code := Try.f21.body.getD .skip
def dr21 : List (Nat × DE) := []
noncomputable abbrev code22 : Code := Try.f22.body.getD .skip
def dr22 : List (Nat × DE) := []
noncomputable abbrev code23 : Code := Try.f23.body.getD .skip
def dr23 : List (Nat × DE) := []
noncomputable abbrev code24 : Code := Try.f24.body.getD .skip
def dr24 : List (Nat × DE) := []
noncomputable abbrev code25 : Code := Try.f25.body.getD .skip
def dr25 : List (Nat × DE) := []
noncomputable abbrev code26 : Code := Try.f26.body.getD .skip
def dr26 : List (Nat × DE) := []
noncomputable abbrev code27 : Code := Try.f27.body.getD .skip
def dr27 : List (Nat × DE) := []
noncomputable abbrev code28 : Code := Try.f28.body.getD .skip
def dr28 : List (Nat × DE) := []
noncomputable abbrev code29 : Code := Try.f29.body.getD .skip
def dr29 : List (Nat × DE) := []
noncomputable abbrev code30 : Code := Try.f30.body.getD .skip
def dr30 : List (Nat × DE) := []
noncomputable abbrev code31 : Code := Try.f31.body.getD .skip
def dr31 : List (Nat × DE) := []
noncomputable abbrev code32 : Code := Try.f32.body.getD .skip
def dr32 : List (Nat × DE) := []
noncomputable abbrev code33 : Code := Try.f33.body.getD .skip
def dr33 : List (Nat × DE) := []
noncomputable abbrev code34 : Code := Try.f34.body.getD .skip
def dr34 : List (Nat × DE) := []
noncomputable abbrev code35 : Code := Try.f35.body.getD .skip
def dr35 : List (Nat × DE) := [(5, .s (.one 1 [6, 7] (.one 2 [6, 7] (.one 3 [5, 6, 7] (.fork 0 (.one 4 [] (.one 5 [] (.one 6 [] (.one 7 [] (.done))))) (.fork 4 (.fork 0 (.one 5 [] (.one 6 [] (.one 7 [] (.done)))) (.fork 5 (.one 0 [6, 7] (.one 6 [] (.one 7 [] (.done)))) (.stop))) (.stop))))))), (11, 8), (13, 17)]
noncomputable abbrev code36 : Code := Try.f36.body.getD .skip
def dr36 : List (Nat × DE) := []
noncomputable abbrev code37 : Code := Try.f37.body.getD .skip
def dr37 : List (Nat × DE) := []
noncomputable abbrev code38 : Code := Try.f38.body.getD .skip
def dr38 : List (Nat × DE) := []
noncomputable abbrev code39 : Code := Try.f39.body.getD .skip
def dr39 : List (Nat × DE) := []
noncomputable abbrev code40 : Code := Try.f40.body.getD .skip
def dr40 : List (Nat × DE) := []
noncomputable abbrev code41 : Code := Try.f41.body.getD .skip
def dr41 : List (Nat × DE) := [(22, 11), (26, 12)]
noncomputable abbrev code42 : Code := Try.f42.body.getD .skip
def dr42 : List (Nat × DE) := []
noncomputable abbrev code43 : Code := Try.f43.body.getD .skip
def dr43 : List (Nat × DE) := []
noncomputable abbrev code44 : Code := Try.f44.body.getD .skip
def dr44 : List (Nat × DE) := []
noncomputable abbrev code45 : Code := Try.f45.body.getD .skip
def dr45 : List (Nat × DE) := []
noncomputable abbrev code46 : Code := Try.f46.body.getD .skip
def dr46 : List (Nat × DE) := []
noncomputable abbrev code47 : Code := Try.f47.body.getD .skip
def dr47 : List (Nat × DE) := []
noncomputable abbrev code48 : Code := Try.f48.body.getD .skip
def dr48 : List (Nat × DE) := [(8, .s (.one 0 [8, 9, 10] (.one 1 [2, 3, 4, 7, 8, 9, 10] (.one 2 [3, 4, 7, 8, 9, 10] (.one 3 [4, 7, 8, 9, 10] (.one 4 [7, 8, 9, 10] (.one 5 [6, 7, 8, 9, 10] (.one 6 [] (.one 7 [] (.one 8 [9, 10] (.one 9 [10] (.one 10 [] (.done))))))))))))), (9, .s (.one 0 [1, 2, 3, 6] (.one 1 [2, 3, 6] (.one 2 [3, 6] (.one 4 [5, 6] (.fork 3 (.one 5 [] (.one 6 [] (.done))) (.fork 5 (.one 3 [6] (.one 6 [] (.done))) (.stop))))))))]
noncomputable abbrev code49 : Code := Try.f49.body.getD .skip
def dr49 : List (Nat × DE) := [(15, 9), (17, .s (.one 1 [2, 3, 4, 7, 8, 9, 10] (.one 2 [3, 4, 7, 8, 9, 10] (.one 3 [4, 7, 8, 9, 10] (.one 4 [7, 8, 9, 10] (.one 5 [6, 7, 8, 9, 10] (.fork 0 (.one 6 [] (.one 7 [] (.one 8 [9, 10] (.one 9 [10] (.one 10 [] (.done)))))) (.fork 6 (.fork 0 (.one 7 [] (.one 8 [9, 10] (.one 9 [10] (.one 10 [] (.done))))) (.fork 7 (.one 0 [8, 9, 10] (.one 8 [9, 10] (.one 9 [10] (.one 10 [] (.done))))) (.stop))) (.stop))))))))), (18, 11)]
noncomputable abbrev code50 : Code := Try.f50.body.getD .skip
def dr50 : List (Nat × DE) := []
noncomputable abbrev code51 : Code := Try.f51.body.getD .skip
def dr51 : List (Nat × DE) := []
noncomputable abbrev code52 : Code := Try.f52.body.getD .skip
def dr52 : List (Nat × DE) := []
noncomputable abbrev code53 : Code := Try.f53.body.getD .skip
def dr53 : List (Nat × DE) := [(4, 10)]
noncomputable abbrev code54 : Code := Try.f54.body.getD .skip
def dr54 : List (Nat × DE) := [(5, 9), (9, 8), (14, 13)]
noncomputable abbrev code55 : Code := Try.f55.body.getD .skip
def dr55 : List (Nat × DE) := []
noncomputable abbrev code56 : Code := Try.f56.body.getD .skip
def dr56 : List (Nat × DE) := [(6, 7)]
noncomputable abbrev code57 : Code := Try.f57.body.getD .skip
def dr57 : List (Nat × DE) := []
noncomputable abbrev code58 : Code := Try.f58.body.getD .skip
def dr58 : List (Nat × DE) := []
noncomputable abbrev code59 : Code := Try.f59.body.getD .skip
def dr59 : List (Nat × DE) := []
noncomputable abbrev code60 : Code := Try.f60.body.getD .skip
def dr60 : List (Nat × DE) := []
noncomputable abbrev code61 : Code := Try.f61.body.getD .skip
def dr61 : List (Nat × DE) := []
noncomputable abbrev code62 : Code := Try.f62.body.getD .skip
def dr62 : List (Nat × DE) := [(0, 11), (7, 12)]
noncomputable abbrev code63 : Code := Try.f63.body.getD .skip
def dr63 : List (Nat × DE) := []
noncomputable abbrev code64 : Code := Try.f64.body.getD .skip
def dr64 : List (Nat × DE) := []
noncomputable abbrev code65 : Code := Try.f65.body.getD .skip
def dr65 : List (Nat × DE) := [(2, 12), (3, 14), (9, .s (.one 0 [11, 12, 13] (.one 1 [2, 3, 4, 10, 11, 12, 13] (.one 2 [3, 4, 10, 11, 12, 13] (.one 3 [4, 10, 11, 12, 13] (.one 5 [6, 9, 10, 11, 12, 13] (.one 7 [8, 9, 10, 11, 12, 13] (.one 4 [10, 11, 12, 13] (.one 6 [9, 10, 11, 12, 13] (.one 8 [9, 10, 11, 12, 13] (.one 9 [] (.one 10 [] (.one 11 [12, 13] (.one 12 [13] (.one 13 [] (.done)))))))))))))))), (11, .s (.one 0 [9, 10, 11] (.one 1 [2, 3, 4, 8, 9, 10, 11] (.one 2 [3, 4, 8, 9, 10, 11] (.one 3 [4, 8, 9, 10, 11] (.one 5 [6, 7, 8, 9, 10, 11] (.one 4 [8, 9, 10, 11] (.one 6 [7, 8, 9, 10, 11] (.one 7 [] (.one 8 [] (.one 9 [10, 11] (.one 10 [11] (.one 11 [] (.done))))))))))))))]
noncomputable abbrev code66 : Code := Try.f66.body.getD .skip
def dr66 : List (Nat × DE) := []
noncomputable abbrev code67 : Code := Try.f67.body.getD .skip
def dr67 : List (Nat × DE) := []
noncomputable abbrev code68 : Code := Try.f68.body.getD .skip
def dr68 : List (Nat × DE) := [(17, 14)]
noncomputable abbrev code69 : Code := Try.f69.body.getD .skip
def dr69 : List (Nat × DE) := []
noncomputable abbrev code70 : Code := Try.f70.body.getD .skip
def dr70 : List (Nat × DE) := [(6, 8)]
noncomputable abbrev code71 : Code := Try.f71.body.getD .skip
def dr71 : List (Nat × DE) := [(3, 12)]
noncomputable abbrev code72 : Code := Try.f72.body.getD .skip
def dr72 : List (Nat × DE) := [(4, 14), (6, 15)]
noncomputable abbrev code73 : Code := Try.f73.body.getD .skip
def dr73 : List (Nat × DE) := [(10, 17)]
noncomputable abbrev code74 : Code := Try.f74.body.getD .skip
def dr74 : List (Nat × DE) := [(10, 17)]
noncomputable abbrev code75 : Code := Try.f75.body.getD .skip
def dr75 : List (Nat × DE) := []
noncomputable abbrev code76 : Code := Try.f76.body.getD .skip
def dr76 : List (Nat × DE) := [(3, 13)]
noncomputable abbrev code77 : Code := Try.f77.body.getD .skip
def dr77 : List (Nat × DE) := [(5, 15), (11, 15), (16, 10), (17, 15), (22, 10), (23, 15)]
noncomputable abbrev code78 : Code := Try.f78.body.getD .skip
def dr78 : List (Nat × DE) := []
noncomputable abbrev code79 : Code := Try.f79.body.getD .skip
def dr79 : List (Nat × DE) := [(1, 13), (3, 14), (5, 13), (8, 13)]
noncomputable abbrev code80 : Code := Try.f80.body.getD .skip
def dr80 : List (Nat × DE) := [(1, 13), (3, 13), (5, 14), (8, 13), (10, 13), (13, 13), (15, 14), (18, 13), (21, 13)]
noncomputable abbrev code81 : Code := Try.f81.body.getD .skip
def dr81 : List (Nat × DE) := []
noncomputable abbrev code82 : Code := Try.f82.body.getD .skip
def dr82 : List (Nat × DE) := []
noncomputable abbrev code83 : Code := Try.f83.body.getD .skip
def dr83 : List (Nat × DE) := []
noncomputable abbrev code84 : Code := Try.f84.body.getD .skip
def dr84 : List (Nat × DE) := [(3, 19), (5, 13), (6, 21)]
noncomputable abbrev code85 : Code := Try.f85.body.getD .skip
def dr85 : List (Nat × DE) := []
noncomputable abbrev code86 : Code := Try.f86.body.getD .skip
def dr86 : List (Nat × DE) := [(1, 9), (2, 9), (3, 9)]
noncomputable abbrev code87 : Code := Try.f87.body.getD .skip
def dr87 : List (Nat × DE) := []
noncomputable abbrev code88 : Code := Try.f88.body.getD .skip
def dr88 : List (Nat × DE) := []
noncomputable abbrev code89 : Code := Try.f89.body.getD .skip
def dr89 : List (Nat × DE) := []
noncomputable abbrev code90 : Code := Try.f90.body.getD .skip
def dr90 : List (Nat × DE) := [(1, 8)]
end Go.Proofs.Ytkkcdfnlmhmheaa
/- Marks: a set of numbers in memory; New, Has, At, Len, Room, Clear. -/
namespace Go.Proofs.Ytkkcdfnlmhmheaa.Mk
open Go Go.Mv
set_option maxHeartbeats 1000000
set_option maxRecDepth 10000
set_option linter.unusedVariables false
set_option linter.unusedSimpArgs false
attribute [local irreducible] FCalls IntKind.wrap bits Mem.set Mem.setCell Mem.setCells YCalls
def c32 (l : List Nat) : List Value := l.map fun x => .int .i32 ((x : Nat) : Int)
theorem c32_len (l : List Nat) : (c32 l).length = l.length * 1 := by simp [c32]
theorem c32_get {l : List Nat} {k x : Nat} (h : l[k]? = some x) : (c32 l)[k]? = some (.int .i32 ((x : Nat) : Int)) := by simp [c32, h]
theorem wrap32 {x : Int} (h1 : -2147483648 ≤ x) (h2 : x ≤ 2147483647) : IntKind.i32.wrap x = x := by
  unfold IntKind.wrap
  have e1 : IntKind.bits .i32 = 32 := rfl
  have e2 : IntKind.signed .i32 = true := rfl
  simp only [e1, e2, Bool.true_and, decide_eq_true_eq]
  split <;> omega
/-- A set at p: its room, its numbers in their order; F: the blocks that are its own. -/
structure MkD (F : Nat → Prop) (m : Mem) (p room : Nat) (l : List Nat) (A B : Option Addr) (cA cB : Nat) (ws : List Nat) : Prop where
  fp : F p
  hd : Blk m p [.slice B room cB, .slice A l.length cA]
  wh : Sl m (fun k => F k ∧ k ≠ p) B room cB 1 (c32 ws)
  ls : Sl m (fun k => F k ∧ k ≠ p ∧ B ≠ some ⟨k, 0, none⟩) A l.length cA 1 (c32 l)
  lt : ∀ n, n ∈ l → n < room
  at' : ∀ (k n : Nat), l[k]? = some n → ws[n]? = some k
  wlt : ∀ k, k ∈ ws → k ≤ room
  small : room ≤ 100000
  own : ∀ k, F k → m k ≠ none
def Mk (F : Nat → Prop) (m : Mem) (p room : Nat) (l : List Nat) : Prop := ∃ A B cA cB ws, MkD F m p room l A B cA cB ws
section
variable {F : Nat → Prop} {m : Mem} {p room : Nat} {l : List Nat} {A B : Option Addr} {cA cB : Nat} {ws : List Nat}
theorem MkD.wlen (h : MkD F m p room l A B cA cB ws) : ws.length = room := by
  have := h.wh.1
  rw [c32_len] at this
  omega
theorem MkD.nodup (h : MkD F m p room l A B cA cB ws) : l.Nodup := by
  rw [List.Nodup, List.pairwise_iff_getElem]
  intro i j hi hj hij he
  have h1 := h.at' i l[i] (List.getElem?_eq_getElem hi)
  have h2 := h.at' j l[j] (List.getElem?_eq_getElem hj)
  rw [he, h2] at h1
  cases h1
  omega
theorem MkD.llen (h : MkD F m p room l A B cA cB ws) : l.length ≤ room := by
  have := h.nodup.length_le_of_subset (l₂ := List.range room) fun n hn => List.mem_range.2 (h.lt n hn)
  simpa using this
theorem ix21 (b k : Nat) : (⟨b, 0, none⟩ : Addr).add ((k : Int).toNat * (tbl.at 21).size) = ⟨b, k, none⟩ := by
  rw [add_mk, Nat.zero_add]
  show (⟨b, (k : Int).toNat * 1, none⟩ : Addr) = _
  rw [show (k : Int).toNat * 1 = k by omega]
end
end Go.Proofs.Ytkkcdfnlmhmheaa.Mk
/- Marks: New, Has, Put, Clear. -/
namespace Go.Proofs.Ytkkcdfnlmhmheaa.Mk
open Go Go.Mv
set_option maxHeartbeats 1000000
set_option maxRecDepth 10000
set_option linter.unusedVariables false
set_option linter.unusedSimpArgs false
attribute [local irreducible] FCalls IntKind.wrap bits Mem.set Mem.setCell Mem.setCells YCalls
/-- What is not F's own stays; nothing goes. -/
structure Stp (F : Nat → Prop) (m m' : Mem) : Prop where
  keep : ∀ k o, m k = some o → ¬ F k → m' k = some o
  all : ∀ k, m k ≠ none → m' k ≠ none
theorem Stp.refl {F : Nat → Prop} {m : Mem} : Stp F m m := ⟨fun _ _ h _ => h, fun _ h => h⟩
theorem Stp.less {F F' : Nat → Prop} {m m' : Mem} (h : Stp F m m') (hf : ∀ k, F k → F' k) : Stp F' m m' := ⟨fun k o h1 h2 => h.keep k o h1 fun h3 => h2 (hf k h3), h.all⟩
theorem Stp.trans {F F' : Nat → Prop} {m m1 m2 : Mem} (h : Stp F m m1) (h2 : Stp F' m1 m2) (hf : ∀ k, F' k → F k ∨ m k = none) : Stp F m m2 :=
  ⟨fun k o h3 h4 => h2.keep k o (h.keep k o h3 h4) fun h5 => (hf k h5).elim h4 fun h6 => (by rw [h3] at h6; cases h6), fun k h3 => h2.all k (h.all k h3)⟩
theorem Stp.set {F : Nat → Prop} {m : Mem} {b : Nat} {o : Obj} (h : m b = none) : Stp F m (m.set b o) :=
  ⟨fun k o' h1 _ => by rw [Mem.set_ne (by rintro rfl; rw [h] at h1; cases h1)]; exact h1, fun k h1 => by rw [Mem.set_ne (by rintro rfl; exact h1 h)]; exact h1⟩
theorem Stp.of_ne {F : Nat → Prop} {m m' : Mem} {b : Nat} (hb : F b) (h : ∀ k, k ≠ b → m' k = m k) (h2 : m' b ≠ none) : Stp F m m' :=
  ⟨fun k o h1 h3 => by rw [h k (by rintro rfl; exact h3 hb)]; exact h1, fun k h1 => by
    by_cases hk : k = b
    · rw [hk]; exact h2
    · rw [h k hk]; exact h1⟩
theorem Mem.setCell_some {m : Mem} {a : Addr} {v : Value} {k : Nat} (h : m k ≠ none) : (m.setCell a v) k ≠ none := by
  unfold Mem.setCell
  intro h1
  repeat' split at h1
  all_goals first | exact h h1 | cases h1
theorem Mem.setCells_some {a : Addr} {k : Nat} : ∀ (vs : List Value) {m : Mem} {j : Nat}, m k ≠ none → (m.setCells a j vs) k ≠ none
  | [], _, _, h => by simpa only [Mem.setCells] using h
  | v :: r, m, j, h => by
    simp only [Mem.setCells]
    exact Mem.setCells_some r (Mem.setCell_some h)
theorem Stp.put {F : Nat → Prop} {m : Mem} {b i : Nat} {v : Value} (hb : F b) (h : m b ≠ none) : Stp F m (m.setCell ⟨b, i, none⟩ v) := Stp.of_ne hb (fun k hk => Mem.setCell_ne hk) (Mem.setCell_some h)
theorem Stp.puts {F : Nat → Prop} {m : Mem} {b i : Nat} {vs : List Value} (hb : F b) (h : m b ≠ none) : Stp F m (m.setCells ⟨b, i, none⟩ 0 vs) := Stp.of_ne hb (fun k hk => Mem.setCells_ne hk _) (Mem.setCells_some _ h)
theorem Stp.old {m m' : Mem} (h : Stp (fun _ => False) m m') : ∀ k o, m k = some o → m' k = some o := fun k o h1 => h.keep k o h1 id
theorem Stp.of {m m' : Mem} (h : ∀ k o, m k = some o → m' k = some o) : Stp (fun _ => False) m m' :=
  ⟨fun k o h1 _ => h k o h1, fun k h1 => by
    cases hm : m k with
    | none => exact absurd hm h1
    | some o => rw [h k o hm]; simp⟩
/-- The set at p, after a call on it; F: what was its own ahead. -/
def MkS (F : Nat → Prop) (m m' : Mem) (p room : Nat) (l : List Nat) : Prop := ∃ F', Mk F' m' p room l ∧ (∀ k, F' k → F k ∨ m k = none) ∧ Stp F m m'
theorem MkS.refl {F : Nat → Prop} {m : Mem} {p room : Nat} {l : List Nat} (h : Mk F m p room l) : MkS F m m p room l := ⟨F, h, fun _ h => .inl h, Stp.refl⟩
theorem Mk.own {F : Nat → Prop} {m : Mem} {p room : Nat} {l : List Nat} (h : Mk F m p room l) : ∀ k, F k → m k ≠ none := by
  obtain ⟨A, B, cA, cB, ws, h⟩ := h
  exact h.own
theorem Mk.fp {F : Nat → Prop} {m : Mem} {p room : Nat} {l : List Nat} (h : Mk F m p room l) : F p := by
  obtain ⟨A, B, cA, cB, ws, h⟩ := h
  exact h.fp
theorem Mk.nodup {F : Nat → Prop} {m : Mem} {p room : Nat} {l : List Nat} (h : Mk F m p room l) : l.Nodup := by
  obtain ⟨A, B, cA, cB, ws, h⟩ := h
  exact h.nodup
theorem Mk.lt {F : Nat → Prop} {m : Mem} {p room : Nat} {l : List Nat} (h : Mk F m p room l) : ∀ n, n ∈ l → n < room := by
  obtain ⟨A, B, cA, cB, ws, h⟩ := h
  exact h.lt
theorem Mk.small {F : Nat → Prop} {m : Mem} {p room : Nat} {l : List Nat} (h : Mk F m p room l) : room ≤ 100000 := by
  obtain ⟨A, B, cA, cB, ws, h⟩ := h
  exact h.small
theorem Mk.llen {F : Nat → Prop} {m : Mem} {p room : Nat} {l : List Nat} (h : Mk F m p room l) : l.length ≤ room := by
  obtain ⟨A, B, cA, cB, ws, h⟩ := h
  exact h.llen
theorem MkS.trans {F : Nat → Prop} {m m1 m2 : Mem} {p room : Nat} {l l2 : List Nat} (h : MkS F m m1 p room l) (h2 : ∀ F', Mk F' m1 p room l → MkS F' m1 m2 p room l2) : MkS F m m2 p room l2 := by
  obtain ⟨F', h1, hf, hs⟩ := h
  obtain ⟨F2, h3, hf2, hs2⟩ := h2 F' h1
  refine ⟨F2, h3, fun k hk => ?_, hs.trans hs2 hf⟩
  rcases hf2 k hk with h4 | h4
  · exact hf k h4
  · right
    cases hm : m k with
    | none => rfl
    | some o => exact absurd h4 (hs.all k (by rw [hm]; simp))
/-- Another set stays. -/
theorem Mk.stay {F F2 : Nat → Prop} {m m' : Mem} {p room : Nat} {l : List Nat} (h : Mk F m p room l) (hs : Stp F2 m m') (hd : ∀ k, F k → ¬ F2 k) : Mk F m' p room l := by
  obtain ⟨A, B, cA, cB, ws, h⟩ := h
  have hk : ∀ b, F b → m b ≠ none → m' b = m b := fun b hb hne => by
    cases hm : m b with
    | none => exact absurd hm hne
    | some o => exact hs.keep b o hm (hd b hb)
  obtain ⟨e, he⟩ := h.hd
  exact ⟨A, B, cA, cB, ws, h.fp, ⟨e, by rw [hk p h.fp (by rw [he]; simp), he]⟩, h.wh.keep fun b hb => hk b hb.1, h.ls.keep fun b hb => hk b hb.1, h.lt, h.at', h.wlt, h.small, fun k hF => hs.all k (h.own k hF)⟩
theorem zeros21 (n : Nat) : (zerosOf tbl 21 n).list = c32 (List.replicate n 0) := by
  show intCells .i32 (List.replicate n 0) = _
  simp [intCells, c32]
theorem new_mk {m : Mem} {b p n : Nat} (hn : n ≤ 100000) (hb : m b = none) (hp : (m.set b (.cells (zerosOf tbl 21 n).list.toArray 21 (0, 0))) p = none) :
    MkS (fun _ => False) m ((m.set b (.cells (zerosOf tbl 21 n).list.toArray 21 (0, 0))).set p (.cells [.slice (some ⟨b, 0, none⟩) n n, .slice none 0 0].toArray 79 (0, 0))) p n [] := by
  have hpb : p ≠ b := by
    rintro rfl
    simp [Mem.set] at hp
  refine ⟨fun k => k = p ∨ k = b, ?_, ?_, ?_⟩
  · refine ⟨none, some ⟨b, 0, none⟩, 0, n, List.replicate n 0, .inl rfl, Blk.new, ?_, Sl.nil, fun n hn => absurd hn List.not_mem_nil, fun k n h => by simp at h, fun k hk => ?_, by omega, fun k hk => ?_⟩
    · refine ⟨by simp [c32], Nat.le_refl _, .inr ⟨b, (zerosOf tbl 21 n).list, 21, rfl, ⟨.inr rfl, fun h => hpb h.symm⟩, ?_, by rw [zeros21, c32_len]; simp, fun k v h => by rw [zeros21]; exact h⟩⟩
      rw [Mem.set_ne (fun h => hpb h.symm)]
      simp [Mem.set]
    · rw [List.mem_replicate] at hk
      omega
    · rcases hk with rfl | rfl
      · simp [Mem.set]
      · rw [Mem.set_ne (fun h => hpb h.symm)]
        simp [Mem.set]
  · rintro k (rfl | rfl)
    · right
      cases hm : m k with
      | none => rfl
      | some o => exact absurd hp ((Stp.set (F := fun _ => False) hb).all k (by rw [hm]; simp))
    · exact .inr hb
  · exact (Stp.set hb).trans (Stp.set hp) fun k h => .inl h
theorem new_c {m : Mem} {room : Int} : FCalls Try.prog 27 [.int .i64 room] m fun v m' =>
    (0 ≤ room ∧ room ≤ 100000 → ∃ p, v = .tuple #[.pointer (some ⟨p, 0, none⟩), .int .i64 0] ∧ MkS (fun _ => False) m m' p room.toNat []) ∧ (¬ (0 ≤ room ∧ room ≤ 100000) → v = .tuple #[.pointer none, .int .i64 1] ∧ m' = m) := by
  refine fcalls_of_vc (T := tbl) (B := bodies) (pr := []) (DR := dr27) (args := [.v (.int .i64 room)]) tbl_ok bodies_ok mixed Try.func27 rfl (by decide +kernel) (by simp [Try.f27]) rfl ?_
  by_cases c1 : room < 0
  · have e1 := decide_eq_true c1
    (conv => whnf)
    refine brk_false (by rw [e1]; rfl) ?_
    (conv => whnf)
    exact ⟨fun h => by omega, fun _ => ⟨rfl, rfl⟩⟩
  · have e1 := decide_eq_false c1
    by_cases c2 : room > 100000
    · have e2 := decide_eq_true c2
      (conv => whnf)
      refine brk_true (by rw [e1]; rfl) ?_
      (conv => whnf)
      refine brk_true (by rw [e2]; rfl) ?_
      (conv => whnf)
      exact ⟨fun h => by omega, fun _ => ⟨rfl, rfl⟩⟩
    · have e2 := decide_eq_false c2
      (conv => whnf)
      refine brk_true (by rw [e1]; rfl) ?_
      (conv => whnf)
      refine brk_false (by rw [e2]; rfl) ?_
      (conv => whnf)
      refine ⟨by omega, by omega, by omega, ?_, fun b hb => ?_⟩
      · show ((4 : Nat) : Int) * room ≤ 2 ^ 48
        omega
      · (conv => whnf)
        intro p hp
        (conv => whnf)
        exact ⟨fun _ => ⟨p, rfl, new_mk (by omega) hb hp⟩, fun h => by omega⟩
theorem has_c {F : Nat → Prop} {m : Mem} {p room : Nat} {l : List Nat} (h : Mk F m p room l) {n : Int} : FCalls Try.prog 83 [.pointer (some ⟨p, 0, none⟩), .int .i64 n] m fun v m' => v = .bool (decide (0 ≤ n ∧ n.toNat ∈ l)) ∧ m' = m := by
  obtain ⟨A, B, cA, cB, ws, h⟩ := h
  refine fcalls_of_vc (T := tbl) (B := bodies) (pr := []) (DR := dr83) (args := [.v (.pointer (some ⟨p, 0, none⟩)), .v (.int .i64 n)]) tbl_ok bodies_ok mixed Try.func83 rfl (by decide +kernel) (by simp [Try.f83]) rfl ?_
  by_cases c1 : n < 0
  · have e1 := decide_eq_true c1
    (conv => whnf)
    refine brk_false (by rw [e1]; rfl) ?_
    (conv => whnf)
    exact ⟨by rw [decide_eq_false (by omega)]; rfl, rfl⟩
  · have e1 := decide_eq_false c1
    by_cases c2 : n ≥ (room : Nat)
    · have e2 := decide_eq_true c2
      (conv => whnf)
      refine brk_true (by rw [e1]; rfl) ?_
      (conv => whnf)
      refine ⟨_, _, _, h.hd.cell (i := 0) rfl, ?_⟩
      (conv => whnf)
      refine brk_true (by rw [e2]; rfl) ?_
      (conv => whnf)
      exact ⟨by rw [decide_eq_false (fun h1 => by have := h.lt _ h1.2; omega)]; rfl, rfl⟩
    · have e2 := decide_eq_false c2
      have hkl : n.toNat < ws.length := by rw [h.wlen]; omega
      obtain ⟨w, hw⟩ : ∃ w, ws[n.toNat]? = some w := ⟨_, List.getElem?_eq_getElem hkl⟩
      obtain ⟨b, hB, _, hc, _⟩ := h.wh.cell (c32_get hw)
      have hwr := h.wlt w (List.mem_of_getElem? hw)
      have hsm := h.small
      have hk : n = ((n.toNat : Nat) : Int) := by omega
      generalize n.toNat = j at *
      subst hk
      (conv => whnf)
      refine ⟨_, _, _, h.hd.cell (i := 0) rfl, ?_⟩
      (conv => whnf)
      refine brk_false (by rw [e2]; rfl) ?_
      (conv => whnf)
      refine ⟨_, _, _, h.hd.cell (i := 0) rfl, ?_⟩
      (conv => whnf)
      refine ⟨_, hB, by omega, by omega, ?_⟩
      (conv => whnf)
      refine ⟨_, by rw [ix21]; exact hc, ?_⟩
      (conv => whnf)
      refine ⟨_, _, _, h.hd.cell (i := 1) rfl, ?_⟩
      (conv => whnf)
      have hwi : IntKind.i64.wrap ((w : Nat) : Int) = w := wrap_id (by omega) (by omega)
      refine brk_intro (fun h5 => ?_) (fun h5 => ?_)
      · have h5 : w < l.length := by
          have h6 : IntKind.i64.wrap (w : Int) < (l.length : Int) := by simpa using h5
          rw [hwi] at h6
          omega
        obtain ⟨x, hx⟩ : ∃ x, l[w]? = some x := ⟨_, List.getElem?_eq_getElem h5⟩
        obtain ⟨b2, hA, _, hc2, _⟩ := h.ls.cell (c32_get hx)
        have hxr := h.lt x (List.mem_of_getElem? hx)
        (conv => whnf)
        refine ⟨_, _, _, h.hd.cell (i := 1) rfl, ?_⟩
        (conv => whnf)
        refine ⟨_, hA, by omega, by omega, ?_⟩
        (conv => whnf)
        refine ⟨_, by rw [hwi, ix21]; exact hc2, ?_⟩
        (conv => whnf)
        refine ⟨?_, rfl⟩
        have hxi : IntKind.i64.wrap ((x : Nat) : Int) = x := wrap_id (by omega) (by omega)
        show Value.bool (IntKind.i64.wrap ((x : Nat) : Int) == (j : Int)) = _
        rw [hxi]
        congr 1
        by_cases he : x = j
        · subst he
          rw [decide_eq_true ⟨by omega, List.mem_of_getElem? hx⟩]
          exact beq_self_eq_true _
        · rw [decide_eq_false (fun h1 => ?_)]
          · exact beq_eq_false_iff_ne.2 (by omega)
          · obtain ⟨k, hk⟩ := List.getElem?_of_mem h1.2
            have := h.at' k j hk
            rw [hw] at this
            cases this
            rw [hx] at hk
            cases hk
            exact he rfl
      · have h5 : ¬ w < l.length := by
          have h6 : ¬ IntKind.i64.wrap (w : Int) < (l.length : Int) := by simpa using h5
          rw [hwi] at h6
          omega
        (conv => whnf)
        refine ⟨?_, rfl⟩
        show Value.bool false = _
        rw [decide_eq_false (fun h1 => ?_)]
        obtain ⟨k, hk⟩ := List.getElem?_of_mem h1.2
        have := h.at' k j hk
        rw [hw] at this
        cases this
        exact h5 (List.getElem?_eq_some_iff.1 hk).1
def putL (room : Nat) (l : List Nat) (n : Int) : List Nat := if 0 ≤ n ∧ n < room ∧ n.toNat ∉ l then l ++ [n.toNat] else l
theorem MkD.less {F : Nat → Prop} {m : Mem} {p room : Nat} {l : List Nat} {A B : Option Addr} {cA cB : Nat} {ws : List Nat} (h : MkD F m p room l A B cA cB ws) (l' : List Nat) (m' : Mem) (hl : l' <+: l) (hd : Blk m' p [.slice B room cB, .slice A l'.length cA]) (hm : ∀ k, k ≠ p → m' k = m k) : MkD F m' p room l' A B cA cB ws := by
  obtain ⟨t, rfl⟩ := hl
  refine ⟨h.fp, hd, h.wh.keep fun b hb _ => hm b hb.2, ?_, fun n hn => h.lt n (List.mem_append.2 (.inl hn)), fun k n hk => h.at' k n ?_, h.wlt, h.small, fun k hF hn => ?_⟩
  · obtain ⟨h1, h2, h3⟩ := h.ls.keep (m' := m') fun b hb _ => hm b hb.2.1
    rw [List.length_append] at h2
    refine ⟨c32_len _, by omega, h3.imp_right fun ⟨b, r, e, k1, k2, k3, k4, k5⟩ => ⟨b, r, e, k1, k2, k3, k4, fun k v hv => k5 k v ?_⟩⟩
    unfold c32
    rw [List.map_append]
    have := (List.getElem?_eq_some_iff.1 hv).1
    rw [List.getElem?_append_left (by simpa [c32] using this)]
    exact hv
  · have := (List.getElem?_eq_some_iff.1 hk).1
    rw [List.getElem?_append_left this]
    exact hk
  · by_cases hp : k = p
    · subst hp
      obtain ⟨e, he⟩ := hd
      rw [he] at hn
      cases hn
    · rw [hm k hp] at hn
      exact h.own k hF hn
theorem clear_c {F : Nat → Prop} {m : Mem} {p room : Nat} {l : List Nat} (h : Mk F m p room l) : FCalls Try.prog 64 [.pointer (some ⟨p, 0, none⟩)] m fun v m' => v = .tuple #[] ∧ MkS F m m' p room [] := by
  obtain ⟨A, B, cA, cB, ws, h⟩ := h
  refine fcalls_of_vc (T := tbl) (B := bodies) (pr := []) (DR := dr64) (args := [.v (.pointer (some ⟨p, 0, none⟩))]) tbl_ok bodies_ok mixed Try.func64 rfl (by decide +kernel) (by simp [Try.f64]) rfl ?_
  (conv => whnf)
  refine ⟨_, _, _, h.hd.cell (i := 1) rfl, ?_⟩
  (conv => whnf)
  refine ⟨by omega, by omega, by omega, ?_⟩
  (conv => whnf)
  refine ⟨⟨⟨_, h.hd.cell (i := 1) rfl⟩, h.hd.fz⟩, ?_⟩
  (conv => whnf)
  refine ⟨rfl, ?_⟩
  have e : (if cA = Int.toNat 0 then A else Option.map (fun p => p.add (Int.toNat 0 * (tbl.at 21).size)) A) = A := by
    split
    · rfl
    · obtain ⟨_, _, h3⟩ := h.ls
      rcases h3 with ⟨rfl, rfl⟩ | ⟨b, r, e, rfl, _⟩
      · rfl
      · show some (Addr.add ⟨b, 0, none⟩ (0 * 1)) = _
        rw [add_mk]
  show MkS F m (m.setCell ⟨p, 1, none⟩ (.slice (if cA = Int.toNat 0 then A else Option.map (fun p => p.add (Int.toNat 0 * (tbl.at 21).size)) A) 0 cA)) p room []
  rw [e]
  exact ⟨F, ⟨A, B, cA, cB, ws, h.less [] _ List.nil_prefix (h.hd.put (i := 1) _) fun k hk => Mem.setCell_ne hk⟩, fun _ h => .inl h, Stp.put h.fp (h.own p h.fp)⟩
end Go.Proofs.Ytkkcdfnlmhmheaa.Mk
/- Marks: Put. -/
namespace Go.Proofs.Ytkkcdfnlmhmheaa.Mk
open Go Go.Mv
set_option maxHeartbeats 1000000
set_option maxRecDepth 10000
set_option linter.unusedVariables false
set_option linter.unusedSimpArgs false
attribute [local irreducible] FCalls IntKind.wrap bits Mem.set Mem.setCell Mem.setCells YCalls
section
variable {F : Nat → Prop} {m : Mem} {p room : Nat} {l : List Nat} {A B : Option Addr} {cA cB : Nat} {ws : List Nat}
theorem c32_set {ws : List Nat} {j x : Nat} : c32 (ws.set j x) = (c32 ws).set j (.int .i32 ((x : Nat) : Int)) := by simp [c32, List.map_set]
theorem MkD.mid (h : MkD F m p room l A B cA cB ws) {j b : Nat} (hj : j < room) (hl : j ∉ l) (hB : B = some ⟨b, 0, none⟩) (hn : l.length ≤ room) :
    MkD F (m.setCell ⟨b, j, none⟩ (.int .i32 ((l.length : Nat) : Int))) p room l A B cA cB (ws.set j l.length) ∧ Stp F m (m.setCell ⟨b, j, none⟩ (.int .i32 ((l.length : Nat) : Int))) ∧
      (∃ u, m.cell ⟨b, j, none⟩ = some u) ∧ m.fz ⟨b, j, none⟩ = false ∧ (ws.set j l.length)[j]? = some l.length := by
  have hj2 : j < (c32 ws).length := by rw [c32_len, h.wlen]; omega
  obtain ⟨b', hB', hF, hu, hz, hS, hoth⟩ := h.wh.over (.int .i32 ((l.length : Nat) : Int)) hj2
  rw [hB] at hB'
  cases hB'
  refine ⟨⟨h.fp, h.hd.setCell_ne (fun h => hF.2 h.symm), c32_set ▸ hS, h.ls.keep fun k hk _ => hoth k fun h => hk.2.2 (by rw [hB, h]), h.lt, fun k n hk => ?_, fun k hk => ?_, h.small, fun k hk => Mem.setCell_some (h.own k hk)⟩, Stp.put hF.1 (h.own _ hF.1), hu, hz, ?_⟩
  · have hne : n ≠ j := by rintro rfl; exact hl (List.mem_of_getElem? hk)
    rw [List.getElem?_set_ne (Ne.symm hne)]
    exact h.at' k n hk
  · rcases List.mem_or_eq_of_mem_set hk with h1 | rfl
    · exact h.wlt k h1
    · exact hn
  · rw [List.getElem?_set_self (by rw [h.wlen]; exact hj)]
theorem c32_app {l : List Nat} {j : Nat} : c32 (l ++ [j]) = c32 l ++ [Value.int .i32 ((j : Nat) : Int)] := by simp [c32]
theorem MkD.app (h : MkD F m p room l A B cA cB ws) {j cA' : Nat} {A' : Option Addr} {F' : Nat → Prop} {m' : Mem} (hj : j < room) (hw : ws[j]? = some l.length) (hF : ∀ k, F k → F' k)
    (hd : Blk m' p [.slice B room cB, .slice A' (l.length + 1) cA']) (hs : Sl m' (fun k => F' k ∧ k ≠ p ∧ B ≠ some ⟨k, 0, none⟩) A' (l.length + 1) cA' 1 (c32 l ++ [Value.int .i32 ((j : Nat) : Int)]))
    (hB : ∀ k, B = some ⟨k, 0, none⟩ → m k ≠ none → m' k = m k) (ho : ∀ k, F' k → m' k ≠ none) : MkD F' m' p room (l ++ [j]) A' B cA' cB ws := by
  refine ⟨hF _ h.fp, by simpa using hd, ?_, by rw [c32_app]; simpa using hs, fun n hn => ?_, fun k n hk => ?_, h.wlt, h.small, ho⟩
  · have hw := h.wh
    obtain ⟨h1, h2, h3⟩ := hw
    exact ⟨h1, h2, h3.imp_right fun ⟨b, l, e, k1, k2, k3, k4⟩ => ⟨b, l, e, k1, ⟨hF _ k2.1, k2.2⟩, by rw [hB b k1 (by rw [k3]; simp), k3], k4⟩⟩
  · rcases List.mem_append.1 hn with h1 | h1
    · exact h.lt n h1
    · rw [List.mem_singleton] at h1
      omega
  · by_cases hkl : k < l.length
    · rw [List.getElem?_append_left hkl] at hk
      exact h.at' k n hk
    · rw [List.getElem?_append_right (by omega)] at hk
      have hk0 : k = l.length := by
        have := (List.getElem?_eq_some_iff.1 hk).1
        simp at this
        omega
      subst hk0
      simp at hk
      subst hk
      exact hw
end
theorem cap21 {n c : Nat} (h : c < n + 1) (hn : n ≤ 100000) : Builtin.nextslicecap (n + 1) c * (tbl.at 21).bytes ≤ 2 ^ 48 := by
  have := nextslicecap_le h
  show _ * 4 ≤ 2 ^ 48
  omega
theorem zeros21n (n : Nat) : (zerosOf tbl 21 n).list.length = n * 1 := by rw [zeros21, c32_len]; simp
theorem ext21 (bk n : Nat) : (⟨bk, 0, none⟩ : Addr).add (n * (tbl.at 21).size) = ⟨bk, n * 1, none⟩ := by
  rw [add_mk, Nat.zero_add]
  rfl
theorem put_c {F : Nat → Prop} {m : Mem} {p room : Nat} {l : List Nat} (h : Mk F m p room l) {n : Int} : FCalls Try.prog 71 [.pointer (some ⟨p, 0, none⟩), .int .i64 n] m fun v m' => v = .bool (decide (0 ≤ n ∧ n < room ∧ n.toNat ∉ l)) ∧ MkS F m m' p room (putL room l n) := by
  have h' := h
  obtain ⟨A, B, cA, cB, ws, h⟩ := h'
  rename_i h0
  refine fcalls_of_vc (T := tbl) (B := bodies) (pr := []) (DR := dr71) (args := [.v (.pointer (some ⟨p, 0, none⟩)), .v (.int .i64 n)]) tbl_ok bodies_ok mixed Try.func71 rfl (by decide +kernel) (by simp [Try.f71]) rfl ?_
  by_cases c1 : n < 0
  · have e1 := decide_eq_true c1
    (conv => whnf)
    refine brk_false (by rw [e1]; rfl) ?_
    (conv => whnf)
    exact ⟨by rw [decide_eq_false (by omega)]; rfl, by unfold putL; rw [if_neg (by omega)]; exact MkS.refl h0⟩
  · have e1 := decide_eq_false c1
    by_cases c2 : n ≥ (room : Nat)
    · have e2 := decide_eq_true c2
      (conv => whnf)
      refine brk_true (by rw [e1]; rfl) ?_
      (conv => whnf)
      refine ⟨_, _, _, h.hd.cell (i := 0) rfl, ?_⟩
      (conv => whnf)
      refine brk_false (by rw [e2]; rfl) ?_
      (conv => whnf)
      exact ⟨by rw [decide_eq_false (by omega)]; rfl, by unfold putL; rw [if_neg (by omega)]; exact MkS.refl h0⟩
    · have e2 := decide_eq_false c2
      have hkl : n.toNat < ws.length := by rw [h.wlen]; omega
      have hsm := h.small
      have hll := h0.llen
      have hk : n = ((n.toNat : Nat) : Int) := by omega
      generalize n.toNat = j at *
      subst hk
      (conv => whnf)
      refine ⟨_, _, _, h.hd.cell (i := 0) rfl, ?_⟩
      (conv => whnf)
      refine brk_true (by rw [e2]; rfl) ?_
      (conv => whnf)
      have hc := has_c h0 (n := (j : Int))
      rw [show ((j : Int)).toNat = j by omega] at hc
      by_cases hin : j ∈ l
      · rw [decide_eq_true (p := 0 ≤ (j : Int) ∧ j ∈ l) ⟨by omega, hin⟩] at hc
        refine FCalls.mono hc fun v m' ⟨h3, h4⟩ => ?_
        subst h3 h4
        (conv => whnf)
        exact ⟨by rw [decide_eq_false (by simp [hin])]; rfl, by unfold putL; rw [if_neg (by simp [hin])]; exact MkS.refl h0⟩
      · rw [decide_eq_false (p := 0 ≤ (j : Int) ∧ j ∈ l) fun h => hin h.2] at hc
        refine FCalls.mono hc fun v m' ⟨h3, h4⟩ => ?_
        subst h3 h4
        (conv => whnf)
        refine ⟨_, _, _, h.hd.cell (i := 0) rfl, ?_⟩
        (conv => whnf)
        refine ⟨_, _, _, h.hd.cell (i := 1) rfl, ?_⟩
        (conv => whnf)
        obtain ⟨b, hB, _⟩ := h.wh.cell (c32_get (List.getElem?_eq_getElem hkl))
        obtain ⟨hm, hst, hu, hz, hwj⟩ := h.mid (j := j) (by omega) hin hB hll
        refine ⟨_, hB, by omega, by omega, ?_⟩
        (conv => whnf)
        rw [wrap32 (x := ((l.length : Nat) : Int)) (by omega) (by omega), ix21]
        refine ⟨⟨hu, hz⟩, ?_⟩
        (conv => whnf)
        refine ⟨_, _, _, hm.hd.cell (i := 1) rfl, ?_⟩
        (conv => whnf)
        generalize m'.setCell ⟨b, j, none⟩ (.int .i32 ((l.length : Nat) : Int)) = m1 at *
        generalize ws.set j l.length = ws1 at *
        clear h
        intro nb hnb
        rw [wrap32 (x := ((j : Nat) : Int)) (by omega) (by omega)]
        have hst2 := hst.trans (F' := F) (Stp.set (o := .cells [.int .i32 ((j : Nat) : Int)].toArray 21 (0, 0)) hnb) fun k hk => .inl hk
        have hm2 : MkD F (m1.set nb (.cells [.int .i32 ((j : Nat) : Int)].toArray 21 (0, 0))) p room l A B cA cB ws1 := by
          have hne : ∀ k, F k → k ≠ nb := by
            rintro k hk rfl
            exact hm.own k hk hnb
          exact ⟨hm.fp, hm.hd.set hnb, hm.wh.keep fun k hk _ => Mem.set_ne (hne k hk.1), hm.ls.keep fun k hk _ => Mem.set_ne (hne k hk.1), hm.lt, hm.at', hm.wlt, hm.small, fun k hk => by rw [Mem.set_ne (hne k hk)]; exact hm.own k hk⟩
        have hM : (m1.set nb (.cells [.int .i32 ((j : Nat) : Int)].toArray 21 (0, 0))) nb = some (.cells [.int .i32 ((j : Nat) : Int)].toArray 21 (0, 0)) := by simp [Mem.set]
        clear hm
        (conv => whnf)
        refine ⟨[.int .i32 ((j : Nat) : Int)], rfl, .inr ⟨_, rfl, fun k v hv => ?_⟩, fun hle => ?_, fun hlt => ?_⟩
        · rw [add_mk, Nat.zero_add]
          exact Blk.cell (l := [.int .i32 ((j : Nat) : Int)]) ⟨21, hM⟩ hv
        · obtain ⟨bk, hA, hFk, hroom, hsl, hoth⟩ := hm2.ls.put (news := [.int .i32 ((j : Nat) : Int)]) (j := 1) rfl hle (by omega)
          refine .inl ⟨_, hA, ?_, rfl, ?_⟩
          · rw [ext21]
            exact hroom
          · rw [ext21]
            have hhd : Blk ((m1.set nb (.cells [.int .i32 ((j : Nat) : Int)].toArray 21 (0, 0))).setCells ⟨bk, l.length * 1, none⟩ 0 [.int .i32 ((j : Nat) : Int)]) p [.slice B room cB, .slice A l.length cA] := hm2.hd.setCells_ne (fun h => hFk.2.1 h.symm)
            (conv => whnf)
            refine ⟨⟨⟨_, hhd.cell (i := 1) rfl⟩, hhd.fz⟩, ?_⟩
            (conv => whnf)
            have hst3 := hst2.trans (F' := F) (Stp.puts (i := l.length * 1) (vs := [.int .i32 ((j : Nat) : Int)]) hFk.1 (hm2.own _ hFk.1)) fun k hk => .inl hk
            have ho3 : ∀ k, F k → ((m1.set nb (.cells [.int .i32 ((j : Nat) : Int)].toArray 21 (0, 0))).setCells ⟨bk, l.length * 1, none⟩ 0 [.int .i32 ((j : Nat) : Int)]) k ≠ none := fun k hk => Mem.setCells_some _ (hm2.own k hk)
            refine ⟨by rw [decide_eq_true ⟨by omega, by omega, by simpa using hin⟩]; rfl, F, ⟨A, B, cA, cB, ws1, ?_⟩, fun k hk => .inl hk, hst3.trans (F' := F) (Stp.put hm2.fp (ho3 _ hm2.fp)) fun k hk => .inl hk⟩
            unfold putL
            rw [if_pos ⟨by omega, by omega, by simpa using hin⟩]
            refine hm2.app (by omega) hwj (fun k hk => hk) (hhd.put (i := 1) _) (hsl.keep fun k hk _ => Mem.setCell_ne hk.2.1) (fun k hk hne => ?_) (fun k hk => Mem.setCell_some (ho3 k hk))
            have hkp : k ≠ p := by
              obtain ⟨_, _, h3⟩ := hm2.wh
              rcases h3 with ⟨rfl, _⟩ | ⟨b', l, e, rfl, k2, _⟩
              · cases hk
              · cases hk
                exact k2.2
            exact (Mem.setCell_ne hkp).trans (hoth k fun h => hFk.2.2 (h ▸ hk))
        · refine ⟨cap21 (n := l.length) hlt (by omega), c32 l, c32_len _, hm2.ls.olds, fun cap nb2 hcap hnb2 => ?_⟩
          have hne2 : ∀ k, F k → k ≠ nb2 := by
            rintro k hk rfl
            exact hm2.own k hk hnb2
          have hpnb : p ≠ nb2 := hne2 p hm2.fp
          have hsl := (hm2.ls.mono (F' := fun k => (F k ∨ k = nb2) ∧ k ≠ p ∧ B ≠ some ⟨k, 0, none⟩) fun k hk => ⟨.inl hk.1, hk.2⟩).grow (b := nb2) (news := [.int .i32 ((j : Nat) : Int)]) (j := 1) (e := 21) (zs := (zerosOf tbl 21 (cap - (l.length + 1))).list) rfl hcap ⟨.inr rfl, fun h => hpnb h.symm, fun h => ?_⟩ (zeros21n _)
          · have hhd := hm2.hd.set (o := .cells (c32 l ++ [Value.int .i32 ((j : Nat) : Int)] ++ (zerosOf tbl 21 (cap - (l.length + 1))).list).toArray 21 (0, 0)) hnb2
            (conv => whnf)
            refine ⟨⟨⟨_, hhd.cell (i := 1) rfl⟩, hhd.fz⟩, ?_⟩
            (conv => whnf)
            have hst3 := hst2.trans (F' := F) (Stp.set (o := .cells (c32 l ++ [Value.int .i32 ((j : Nat) : Int)] ++ (zerosOf tbl 21 (cap - (l.length + 1))).list).toArray 21 (0, 0)) hnb2) fun k hk => .inl hk
            have hown : ∀ k, F k ∨ k = nb2 → ((m1.set nb (.cells [.int .i32 ((j : Nat) : Int)].toArray 21 (0, 0))).set nb2 (.cells (c32 l ++ [Value.int .i32 ((j : Nat) : Int)] ++ (zerosOf tbl 21 (cap - (l.length + 1))).list).toArray 21 (0, 0))) k ≠ none := by
              rintro k (hk | rfl)
              · rw [Mem.set_ne (hne2 k hk)]
                exact hm2.own k hk
              · simp [Mem.set]
            refine ⟨by rw [decide_eq_true ⟨by omega, by omega, by simpa using hin⟩]; rfl, fun k => F k ∨ k = nb2, ⟨some ⟨nb2, 0, none⟩, B, cap, cB, ws1, ?_⟩, fun k hk => ?_, hst3.trans (F' := F) (Stp.put hm2.fp (hown _ (.inl hm2.fp))) fun k hk => .inl hk⟩
            · unfold putL
              rw [if_pos ⟨by omega, by omega, by simpa using hin⟩]
              refine hm2.app (by omega) hwj (fun k hk => .inl hk) (hhd.put (i := 1) _) (hsl.keep fun k hk _ => Mem.setCell_ne hk.2.1) (fun k hk hne => ?_) (fun k hk => Mem.setCell_some (hown k hk))
              have hkF : F k ∧ k ≠ p := by
                obtain ⟨_, _, h3⟩ := hm2.wh
                rcases h3 with ⟨rfl, _⟩ | ⟨b', l, e, rfl, k2, _⟩
                · cases hk
                · cases hk
                  exact k2
              exact (Mem.setCell_ne hkF.2).trans (Mem.set_ne (hne2 k hkF.1))
            · rcases hk with hk | rfl
              · exact .inl hk
              · right
                cases hm : m' k with
                | none => rfl
                | some o => exact absurd hnb2 (hst2.all k (by rw [hm]; simp))
          · obtain ⟨_, _, h3⟩ := hm2.wh
            rw [h] at h3
            rcases h3 with ⟨h3, _⟩ | ⟨b', l, e, h3, k2, _⟩
            · cases h3
            · cases h3
              exact hne2 _ k2.1 rfl
end Go.Proofs.Ytkkcdfnlmhmheaa.Mk
/- Marks: Clone, All. -/
namespace Go.Proofs.Ytkkcdfnlmhmheaa.Mk
open Go Go.Mv
set_option maxHeartbeats 1000000
set_option maxRecDepth 10000
set_option linter.unusedVariables false
set_option linter.unusedSimpArgs false
attribute [local irreducible] FCalls IntKind.wrap bits Mem.set Mem.setCell Mem.setCells YCalls
theorem clone_c {F : Nat → Prop} {m : Mem} {A : Option Addr} {n c : Nat} {l : List Nat} (h : Sl m F A n c 1 (c32 l)) (hn : n ≤ 100000) : FCalls Try.prog 67 [.slice A n c] m fun v m' =>
    (n = 0 ∧ m' = m ∧ ∃ A' c', v = .slice A' 0 c') ∨ ∃ b c' zs, m b = none ∧ v = .slice (some ⟨b, 0, none⟩) n c' ∧ m' = m.set b (.cells (c32 l ++ zs).toArray 21 (0, 0)) := by
  refine FCalls.less ?_
  have h0 := h
  obtain ⟨h1, h2, h3⟩ := h0
  rcases h3 with ⟨rfl, rfl⟩ | ⟨b, r, e, rfl, hF, hb, hr, hk⟩
  · have hn0 : n = 0 := by omega
    subst hn0
    refine fcalls_of_vc (T := tbl) (B := bodies) (pr := []) (DR := dr67) (args := [.v (.slice none 0 0)]) tbl_ok bodies_ok mixed Try.func67 rfl (by decide +kernel) (by simp [Try.f67]) rfl ?_
    (conv => whnf)
    exact ⟨m, fun _ _ h => h, .inl ⟨rfl, rfl, _, _, rfl⟩⟩
  · refine fcalls_of_vc (T := tbl) (B := bodies) (pr := []) (DR := dr67) (args := [.v (.slice (some ⟨b, 0, none⟩) n c)]) tbl_ok bodies_ok mixed Try.func67 rfl (by decide +kernel) (by simp [Try.f67]) rfl ?_
    (conv => whnf)
    intro nb hnb
    (conv => whnf)
    have hS := h.keep (m' := m.set nb (.cells (zerosOf tbl 21 0).list.toArray 21 (0, 0))) fun k _ hne => Mem.set_ne (by rintro rfl; exact hne hnb)
    refine ⟨c32 l, h1, hS.olds.imp_left And.left, fun hle => ?_, fun hlt => ?_⟩
    · have hn0 : n = 0 := by omega
      subst hn0
      have hl0 : c32 l = [] := List.length_eq_zero_iff.1 (by omega)
      rw [hl0]
      refine .inl ⟨_, rfl, fun k hk => by simp at hk, rfl, ?_⟩
      (conv => whnf)
      refine ⟨m, fun k o hk => ?_, .inl ⟨rfl, rfl, _, _, rfl⟩⟩
      show (Mem.setCells _ _ _ []) k = _
      simp only [Mem.setCells]
      exact (Stp.set (F := fun _ => False) hnb).old k o hk
    · refine ⟨?_, [], rfl, .inr ⟨_, rfl, fun k v hv => by simp at hv⟩, fun cap nb2 hcap hnb2 => ?_⟩
      · have h6 : Builtin.nextslicecap (0 + n) 0 = n := by
          unfold Builtin.nextslicecap
          simp
          omega
        rw [h6]
        show n * 4 ≤ 2 ^ 48
        omega
      · (conv => whnf)
        have hne : nb2 ≠ nb := by
          rintro rfl
          simp [Mem.set] at hnb2
        have hnb3 : m nb2 = none := by rwa [Mem.set_ne hne] at hnb2
        refine ⟨m.set nb2 (.cells (c32 l ++ (zerosOf tbl 21 (cap - (0 + n))).list).toArray 21 (0, 0)), fun k o hk => ?_, .inr ⟨nb2, cap, _, hnb3, ?_, rfl⟩⟩
        · show ((m.set nb _).set nb2 (.cells (c32 l ++ (zerosOf tbl 21 (cap - (0 + n))).list).toArray 21 (0, 0))) k = some o
          by_cases hk2 : k = nb2
          · subst hk2
            simp only [Mem.set, if_true] at hk ⊢
            exact hk
          · rw [Mem.set_ne hk2] at hk ⊢
            exact (Stp.set (F := fun _ => False) hnb).old k o hk
        · show Value.slice _ (0 + n) cap = _
          rw [Nat.zero_add]
theorem all_c {m : Mem} {p : Nat} : FCalls Try.prog 58 [.pointer (some ⟨p, 0, none⟩)] m fun v m' => ∃ b, m b = none ∧ v = .func (.func 66) #[] #[.pointer (some ⟨b, 0, none⟩)] ∧ m' = m.set b (.cells [.pointer (some ⟨p, 0, none⟩)].toArray 61 (0, 0)) := by
  refine fcalls_of_vc (T := tbl) (B := bodies) (pr := []) (DR := dr58) (args := [.v (.pointer (some ⟨p, 0, none⟩))]) tbl_ok bodies_ok mixed Try.func58 rfl (by decide +kernel) (by simp [Try.f58]) rfl ?_
  (conv => whnf)
  intro b hb
  (conv => whnf)
  exact ⟨b, hb, rfl, rfl⟩
theorem all_iter (b p room : Nat) (l : List Nat) : IterC1 Try.prog 66 [] [.pointer (some ⟨b, 0, none⟩)] (fun m => m.cell ⟨b, 0, none⟩ = some (.pointer (some ⟨p, 0, none⟩)) ∧ ∃ F, Mk F m p room l) (l.map fun x => [.int .i64 ((x : Nat) : Int)]) := by
  intro y J Q m h0 ⟨hI, F, hM⟩ hy
  show FCalls Try.prog 66 [.func (.yield y) #[] #[], .pointer (some ⟨b, 0, none⟩)] m _
  have hll := hM.llen
  have hsm := hM.small
  obtain ⟨A, B, cA, cB, ws, h⟩ := hM
  refine FCalls.less ?_
  refine fcalls_of_vc (T := tbl) (B := bodies) (pr := []) (DR := dr66) (args := [.v (.func (.yield y) #[] #[]), .v (.pointer (some ⟨b, 0, none⟩))]) tbl_ok bodies_ok mixed Try.func66 rfl (by decide +kernel) (by simp [Try.f66]) rfl ?_
  (conv => whnf)
  refine ⟨_, hI, ?_⟩
  (conv => whnf)
  refine ⟨_, _, _, h.hd.cell (i := 1) rfl, ?_⟩
  (conv => whnf)
  refine FCalls.mono (clone_c h.ls (by omega)) fun v m' hv => ?_
  rcases hv with ⟨hn, hm, A', c', hv⟩ | ⟨nb, c', zs, hnb, hv, hm⟩
  · subst hv hm
    have hl : l = [] := List.length_eq_zero_iff.1 hn
    subst hl
    (conv => whnf)
    refine loop_keep [] Unit (fun s => [(10, .v (.int .i64 0)), (11, .v (.int .i64 0))]) (fun _ => []) (fun s => m') (fun _ => True) (fun _ => 0) () ⟨rfl, rfl, trivial⟩ rfl rfl trivial ?_
    (conv => whnf)
    refine ⟨rfl, fun s _ => ?_⟩
    (conv => whnf)
    exact ⟨m', fun _ _ h => h, .inl h0⟩
  · subst hv hm
    (conv => whnf)
    refine loop_keep [0, 9, 10] (Nat × Mem) (fun s => [(11, .v (.int .i64 s.1))]) (fun _ => []) (fun s => s.2.set nb (.cells (c32 l ++ zs).toArray 21 (0, 0))) (fun s => J s.1 s.2 ∧ s.2 nb = none ∧ s.1 ≤ l.length) (fun s => l.length - s.1) (0, m)
      ⟨rfl, trivial⟩ rfl rfl ⟨h0, hnb, by simp⟩ ?_
    (conv => whnf)
    refine ⟨rfl, fun s hs => ?_⟩
    obtain ⟨i, m1⟩ := s
    obtain ⟨hJ, hn1, hle⟩ := hs
    simp only at hJ hn1 hle
    (conv => whnf)
    refine brk_intro (fun h1 => ?_) (fun h1 => ?_)
    · have h1 : (i : Int) < (l.length : Nat) := by simpa using h1
      have hi : i < l.length := by omega
      obtain ⟨x, hx⟩ : ∃ x, l[i]? = some x := ⟨_, List.getElem?_eq_getElem hi⟩
      have hxr := h.lt x (List.mem_of_getElem? hx)
      (conv => whnf)
      refine ⟨_, rfl, by omega, by omega, ?_⟩
      (conv => whnf)
      refine ⟨((x : Nat) : Int), by
        rw [ix21]
        refine Blk.cell (l := c32 l ++ zs) ⟨21, by simp [Mem.set]⟩ ?_
        rw [List.getElem?_append_left (by rw [c32_len]; omega)]
        exact c32_get hx, ?_⟩
      (conv => whnf)
      rw [wrap_id (x := ((x : Nat) : Int)) (by omega) (by omega)]
      refine YCalls.mono ((hy i _ m1 (by rw [List.getElem?_map, hx]; rfl) hJ).set hn1) fun v m2 ⟨m3, hm3, hn3, hv⟩ => ?_
      subst hm3
      rcases hv with ⟨rfl, hJ2⟩ | ⟨rfl, hQ⟩
      · (conv => whnf)
        refine ⟨(i + 1, m3), le_eq ⟨by show some (AV.v (.int .i64 (IntKind.i64.wrap ((i : Int) + 1)))) = _; rw [wrap_id (by omega) (by omega)]; rfl, rfl, rfl, rfl, trivial⟩ rfl rfl rfl, ⟨hJ2, hn3, by simp only; omega⟩, by simp only; omega⟩
      · (conv => whnf)
        exact ⟨m3, fun k o hk => (Stp.set (F := fun _ => False) hn3).old k o hk, .inr hQ⟩
    · have h1 : ¬ (i : Int) < (l.length : Nat) := by simpa using h1
      have hi : i = l.length := by omega
      subst hi
      (conv => whnf)
      refine ⟨m1, fun k o hk => (Stp.set (F := fun _ => False) hn1).old k o hk, .inl ?_⟩
      rw [List.length_map]
      exact hJ
end Go.Proofs.Ytkkcdfnlmhmheaa.Mk
/- Marks: slices.Sort at nil. -/
namespace Go.Proofs.Ytkkcdfnlmhmheaa.Mk
open Go Go.Mv
set_option maxHeartbeats 1000000
set_option maxRecDepth 10000
set_option linter.unusedVariables false
set_option linter.unusedSimpArgs false
attribute [local irreducible] FCalls bits Mem.set Mem.setCell Mem.setCells YCalls
theorem ins_nil {m : Mem} : FCalls Try.prog 72 [.slice none 0 0, .int .i64 0, .int .i64 0] m fun v m' => v = .tuple #[] ∧ m' = m := by
  refine fcalls_of_vc (T := tbl) (B := bodies) (pr := []) (DR := dr72) (args := [.v (.slice none 0 0), .v (.int .i64 0), .v (.int .i64 0)]) tbl_ok bodies_ok mixed Try.func72 rfl (by decide +kernel) (by simp [Try.f72]) rfl ?_
  (conv => whnf)
  refine loop_keep [0, 1, 2] Unit (fun s => [(6, .v (.int .i64 1))]) (fun _ => []) (fun s => m) (fun _ => True) (fun _ => 0) () ⟨rfl, trivial⟩ rfl rfl trivial ?_
  (conv => whnf)
  refine ⟨rfl, fun s _ => ?_⟩
  (conv => whnf)
  exact ⟨rfl, rfl⟩
theorem pdq_nil {m : Mem} {k : Int} : FCalls Try.prog 68 [.slice none 0 0, .int .i64 0, .int .i64 0, .int .i64 k] m fun v m' => v = .tuple #[] ∧ m' = m := by
  refine fcalls_of_vc (T := tbl) (B := bodies) (pr := []) (DR := dr68) (args := [.v (.slice none 0 0), .v (.int .i64 0), .v (.int .i64 0), .v (.int .i64 k)]) tbl_ok bodies_ok mixed Try.func68 rfl (by decide +kernel) (by simp [Try.f68]) rfl ?_
  (conv => whnf)
  refine loop_keep [0, 1, 2, 3, 8, 9] Unit (fun s => []) (fun _ => []) (fun s => m) (fun _ => True) (fun _ => 0) () trivial rfl rfl trivial ?_
  (conv => whnf)
  refine ⟨rfl, fun s _ => ?_⟩
  (conv => whnf)
  refine FCalls.mono ins_nil fun v m' ⟨h1, h2⟩ => ?_
  subst h1 h2
  (conv => whnf)
  exact ⟨rfl, rfl⟩
theorem len64_0 {m : Mem} : FCalls Try.prog 82 [.int .u64 0] m fun v m' => v = .int .i64 0 ∧ m' = m := by
  refine fcalls_of_vc (T := tbl) (B := bodies) (pr := []) (DR := dr82) (args := [.v (.int .u64 0)]) tbl_ok bodies_ok mixed Try.func82 rfl (by decide +kernel) (by simp [Try.f82]) rfl ?_
  (conv => whnf)
  refine ⟨of_decide_eq_true rfl, of_decide_eq_true rfl, ?_⟩
  (conv => whnf)
  exact ⟨rfl, rfl⟩
theorem len_0 {m : Mem} : FCalls Try.prog 69 [.int .u64 0] m fun v m' => v = .int .i64 0 ∧ m' = m := by
  refine fcalls_of_vc (T := tbl) (B := bodies) (pr := []) (DR := dr69) (args := [.v (.int .u64 0)]) tbl_ok bodies_ok mixed Try.func69 rfl (by decide +kernel) (by simp [Try.f69]) rfl ?_
  (conv => whnf)
  refine FCalls.mono len64_0 fun v m' ⟨h1, h2⟩ => ?_
  subst h1 h2
  (conv => whnf)
  exact ⟨rfl, rfl⟩
theorem sort_nil {m : Mem} : FCalls Try.prog 59 [.slice none 0 0] m fun v m' => v = .tuple #[] ∧ m' = m := by
  refine fcalls_of_vc (T := tbl) (B := bodies) (pr := []) (DR := dr59) (args := [.v (.slice none 0 0)]) tbl_ok bodies_ok mixed Try.func59 rfl (by decide +kernel) (by simp [Try.f59]) rfl ?_
  (conv => whnf)
  refine FCalls.mono len_0 fun v m' ⟨h1, h2⟩ => ?_
  subst h1 h2
  (conv => whnf)
  refine FCalls.mono pdq_nil fun v m' ⟨h1, h2⟩ => ?_
  subst h1 h2
  (conv => whnf)
  exact ⟨rfl, rfl⟩
end Go.Proofs.Ytkkcdfnlmhmheaa.Mk
/- Marks: the shelf's sort, laid at this program. -/
namespace Go.Proofs
open Go.Shelf
def Try.lays189_ren : Go.Shelf.Ren := ⟨fun | 189 => 59 | 125 => 69 | 257 => 68 | 128 => 81 | 129 => 82 | 294 => 72 | 295 => 73 | 296 => 74 | 297 => 75 | 298 => 76 | 299 => 77 | 216 => 78 | 300 => 79 | 301 => 80 | 328 => 84 | 329 => 85 | 330 => 86 | 331 => 87 | 332 => 88 | 215 => 89 | 343 => 90 | n => n, fun | 28 => 36 | 3 => 3 | 46 => 114 | 0 => 0 | 51 => 132 | 53 => 42 | 4 => 4 | 183 => 125 | 182 => 124 | 131 => 95 | 5 => 5 | 9 => 9 | 218 => 134 | 222 => 138 | 228 => 140 | 229 => 70 | n => n, fun | n => n⟩
theorem Try.lays189 : Go.Proofs.Lays.n189 Try.prog Try.lays189_ren := {
  mixed := by kernel_rfl
  f125 := Try.func69.trans (congrArg some (by kernel_rfl))
  f128 := Try.func81.trans (congrArg some (by kernel_rfl))
  f129 := Try.func82.trans (congrArg some (by kernel_rfl))
  f189 := Try.func59.trans (congrArg some (by kernel_rfl))
  f215 := Try.func89.trans (congrArg some (by kernel_rfl))
  f216 := Try.func78.trans (congrArg some (by kernel_rfl))
  f257 := Try.func68.trans (congrArg some (by kernel_rfl))
  f294 := Try.func72.trans (congrArg some (by kernel_rfl))
  f295 := Try.func73.trans (congrArg some (by kernel_rfl))
  f296 := Try.func74.trans (congrArg some (by kernel_rfl))
  f297 := Try.func75.trans (congrArg some (by kernel_rfl))
  f298 := Try.func76.trans (congrArg some (by kernel_rfl))
  f299 := Try.func77.trans (congrArg some (by kernel_rfl))
  f300 := Try.func79.trans (congrArg some (by kernel_rfl))
  f301 := Try.func80.trans (congrArg some (by kernel_rfl))
  f328 := Try.func84.trans (congrArg some (by kernel_rfl))
  f329 := Try.func85.trans (congrArg some (by kernel_rfl))
  f330 := Try.func86.trans (congrArg some (by kernel_rfl))
  f331 := Try.func87.trans (congrArg some (by kernel_rfl))
  f332 := Try.func88.trans (congrArg some (by kernel_rfl))
  f343 := Try.func90.trans (congrArg some (by kernel_rfl))
  t0 := Try.underlying0
  a0 := Try.isAgg0
  z0 := Try.sizeOf0
  v0 := Try.zeroValue0
  t3 := Try.underlying3
  a3 := Try.isAgg3
  z3 := Try.sizeOf3
  v3 := Try.zeroValue3
  t4 := Try.underlying4
  a4 := Try.isAgg4
  z4 := Try.sizeOf4
  v4 := Try.zeroValue4
  t5 := Try.underlying5
  a5 := Try.isAgg5
  z5 := Try.sizeOf5
  v5 := Try.zeroValue5
  t9 := Try.underlying9
  a9 := Try.isAgg9
  z9 := Try.sizeOf9
  v9 := Try.zeroValue9
  t28 := Try.underlying36
  a28 := Try.isAgg36
  z28 := Try.sizeOf36
  v28 := Try.zeroValue36
  t46 := Try.underlying114
  a46 := Try.isAgg114
  z46 := Try.sizeOf114
  v46 := Try.zeroValue114
  t51 := Try.underlying132
  a51 := Try.isAgg132
  z51 := Try.sizeOf132
  v51 := Try.zeroValue132
  t53 := Try.underlying42
  a53 := Try.isAgg42
  z53 := Try.sizeOf42
  v53 := Try.zeroValue42
  t131 := Try.underlying95
  a131 := Try.isAgg95
  z131 := Try.sizeOf95
  v131 := Try.zeroValue95
  t182 := Try.underlying124
  a182 := Try.isAgg124
  z182 := Try.sizeOf124
  v182 := Try.zeroValue124
  t183 := Try.underlying125
  a183 := Try.isAgg125
  z183 := Try.sizeOf125
  v183 := Try.zeroValue125
  t218 := Try.underlying134
  a218 := Try.isAgg134
  z218 := Try.sizeOf134
  v218 := Try.zeroValue134
  t222 := Try.underlying138
  a222 := Try.isAgg138
  z222 := Try.sizeOf138
  v222 := Try.zeroValue138
  t228 := Try.underlying140
  a228 := Try.isAgg140
  z228 := Try.sizeOf140
  v228 := Try.zeroValue140
  t229 := Try.underlying70
  a229 := Try.isAgg70
  z229 := Try.sizeOf70
  v229 := Try.zeroValue70 }
end Go.Proofs
/- Marks: Rising. -/
namespace Go.Proofs.Ytkkcdfnlmhmheaa.Mk
open Go Go.Mv
set_option maxHeartbeats 1000000
set_option maxRecDepth 10000
set_option linter.unusedVariables false
set_option linter.unusedSimpArgs false
attribute [local irreducible] FCalls IntKind.wrap bits Mem.set Mem.setCell Mem.setCells YCalls
def up (zs : List Int) : List Int := zs.mergeSort fun x y => decide (x ≤ y)
theorem up_len (zs : List Int) : (up zs).length = zs.length := by simp [up, List.length_mergeSort]
def ints (zs : List Int) : List Value := zs.map (.int .i64)
theorem ints_len (zs : List Int) : (ints zs).length = zs.length * 1 := by simp [ints]
theorem ints_get {zs : List Int} {k : Nat} {x : Int} (h : zs[k]? = some x) : (ints zs)[k]? = some (.int .i64 x) := by simp [ints, h]
theorem put_cells {zs : List Int} {r : List Value} (hl : zs.length ≤ r.length) : Sort.putCells (Value.int .i64) 0 zs.toArray r.toArray = (ints zs ++ r.drop zs.length).toArray := by
  apply Array.ext_getElem?
  intro k
  simp only [Sort.putCells, Array.getElem?_mapIdx, List.getElem?_toArray]
  by_cases hk : k < zs.length
  · rw [List.getElem?_append_left (by simpa [ints] using hk), List.getElem?_eq_getElem (by omega)]
    simp [ints, hk]
  · rw [List.getElem?_append_right (by simpa [ints] using hk)]
    simp [ints, hk]
    rw [show zs.length + (k - zs.length) = k by omega]
theorem sort_c {m : Mem} {F : Nat → Prop} {A : Option Addr} {cap : Nat} {zs : List Int} (h : Sl m F A zs.length cap 1 (ints zs)) (hn : zs.length < 4611686018427387904) :
    FCalls Try.prog 59 [.slice A zs.length cap] m fun v m' => v = .tuple #[] ∧ Sl m' F A zs.length cap 1 (ints (up zs)) ∧ (∀ k, A ≠ some ⟨k, 0, none⟩ → m' k = m k) ∧ ∀ k, m k ≠ none → m' k ≠ none := by
  have h0 := h
  obtain ⟨h1, h2, h3⟩ := h
  rcases h3 with ⟨rfl, rfl⟩ | ⟨b, r, e, rfl, hF, hb, hr, hk⟩
  · have hz : zs = [] := List.length_eq_zero_iff.1 (by omega)
    subst hz
    exact sort_nil.mono fun v m' ⟨h4, h5⟩ => ⟨h4, by rw [h5, show up [] = [] from List.mergeSort_nil]; exact h0, fun k _ => by rw [h5], fun k hk => by rw [h5]; exact hk⟩
  · have hlen : (up zs).length ≤ r.length := by rw [up_len]; omega
    refine (FCalls.of_putRow (d := (up zs).toArray) (enc := Value.int .i64) hb fun w hw => ?_).mono fun v m' ⟨h4, h5⟩ => ?_
    · refine calls_of_every_depth fun D => AnyS.slices_Sort_int_in Try.lays189 D b 0 cap zs w (fun j hj => ?_) ?_ hn
      · have hj : j < zs.length := by simpa using hj
        obtain ⟨b', hA, _, hc, hz⟩ := h0.cell (ints_get (List.getElem?_eq_getElem hj))
        cases hA
        refine ⟨?_, ?_⟩
        · rw [Nat.zero_add, Mem.sub_cell hw hc]
          simp [hj]
        · rw [Nat.zero_add, Mem.sub_fz hw hc, hz]
      · exact Mem.sub_lt hw (by rw [hb]; simp)
    · subst h4 h5
      refine ⟨rfl, ⟨by rw [ints_len, up_len], h2, .inr ⟨b, ints (up zs) ++ r.drop (up zs).length, e, rfl, hF, ?_, ?_, fun k v hv => ?_⟩⟩, fun k hne => Mem.set_ne fun hkb => hne (by rw [hkb]), fun k hne => ?_⟩
      · rw [put_cells hlen]
        simp [Mem.set]
      · rw [List.length_append, ints_len, List.length_drop]
        omega
      · rw [List.getElem?_append_left (List.getElem?_eq_some_iff.1 hv).1]
        exact hv
      · by_cases hkb : k = b
        · subst hkb
          simp [Mem.set]
        · rw [Mem.set_ne hkb]
          exact hne
def cast (l : List Nat) : List Int := l.map fun x => ((x : Nat) : Int)
theorem cap29 {n c : Nat} (h : c < n + 1) (hn : n ≤ 100000) : Builtin.nextslicecap (n + 1) c * (tbl.at 3).bytes ≤ 2 ^ 48 := by
  have := nextslicecap_le h
  show _ * 8 ≤ 2 ^ 48
  omega
theorem zeros3 (n : Nat) : (zerosOf tbl 3 n).list.length = n * 1 := by
  show (intCells .i64 (List.replicate n 0)).length = n * 1
  simp [intCells]
theorem ext3 (bk n : Nat) : (⟨bk, 0, none⟩ : Addr).add (n * (tbl.at 3).size) = ⟨bk, n * 1, none⟩ := by
  rw [add_mk, Nat.zero_add]
  rfl
theorem setCell_at {m : Mem} {b e i : Nat} {f : Nat × Nat} {l : List Value} {v : Value} (h : m b = some (.cells l.toArray e f)) : (m.setCell ⟨b, i, none⟩ v) b = some (.cells (l.set i v).toArray e f) := by
  simp [Mem.setCell, h]
end Go.Proofs.Ytkkcdfnlmhmheaa.Mk
/- Marks: pick, same, known, filled. -/
namespace Go.Proofs.Ytkkcdfnlmhmheaa.Mk
open Go Go.Mv
set_option maxHeartbeats 1000000
set_option maxRecDepth 10000
set_option linter.unusedVariables false
set_option linter.unusedSimpArgs false
attribute [local irreducible] FCalls IntKind.wrap bits Mem.set Mem.setCell Mem.setCells YCalls
theorem up20 : up [2, 0] = [0, 2] := by
  unfold up
  simp [List.mergeSort, List.MergeSort.Internal.splitInTwo, List.merge]
theorem MkS.next {G F : Nat → Prop} {m0 m m2 : Mem} {p p2 room room2 : Nat} {l l2 : List Nat} (h1 : ∀ k, F k → G k ∨ m0 k = none) (hs : Stp G m0 m) (h2 : MkS F m m2 p room l2) : MkS G m0 m2 p room l2 := by
  obtain ⟨F2, h3, hf2, hs2⟩ := h2
  refine ⟨F2, h3, fun k hk => ?_, hs.trans hs2 h1⟩
  rcases hf2 k hk with h4 | h4
  · exact h1 k h4
  · right
    cases hm : m0 k with
    | none => rfl
    | some o => exact absurd h4 (hs.all k (by rw [hm]; simp))
section
variable {G : Nat → Prop} {m0 m : Mem} {p room : Nat} {l : List Nat}
theorem put_m (h : MkS G m0 m p room l) (n : Int) : FCalls Try.prog 71 [.pointer (some ⟨p, 0, none⟩), .int .i64 n] m fun v m' => v = .bool (decide (0 ≤ n ∧ n < room ∧ n.toNat ∉ l)) ∧ MkS G m0 m' p room (putL room l n) := by
  obtain ⟨F, h1, h2, h3⟩ := h
  exact (put_c h1).mono fun v m' ⟨h4, h5⟩ => ⟨h4, MkS.next (p2 := 0) (room2 := 0) (l := []) h2 h3 h5⟩
theorem clear_m (h : MkS G m0 m p room l) : FCalls Try.prog 64 [.pointer (some ⟨p, 0, none⟩)] m fun v m' => v = .tuple #[] ∧ MkS G m0 m' p room [] := by
  obtain ⟨F, h1, h2, h3⟩ := h
  exact (clear_c h1).mono fun v m' ⟨h4, h5⟩ => ⟨h4, MkS.next (p2 := 0) (room2 := 0) (l := []) h2 h3 h5⟩
theorem has_m (h : MkS G m0 m p room l) (n : Int) : FCalls Try.prog 83 [.pointer (some ⟨p, 0, none⟩), .int .i64 n] m fun v m' => v = .bool (decide (0 ≤ n ∧ n.toNat ∈ l)) ∧ m' = m := by
  obtain ⟨F, h1, _⟩ := h
  exact has_c h1
/-- Only what is not told of, or is new, has turned. -/
theorem MkS.more {m' : Mem} (h : MkS G m0 m p room l) (hs : ∀ k o, m k = some o → m' k = some o) : MkS G m0 m' p room l := by
  obtain ⟨F, h1, h2, h3⟩ := h
  exact ⟨F, h1.stay (Stp.of hs) fun _ _ h => h, h2, h3.trans (Stp.of hs) fun _ h => h.elim⟩
theorem MkS.low (h : MkS (fun _ => False) m0 m p room l) : ∀ k o, m0 k = some o → m k = some o := by
  obtain ⟨F, h1, h2, h3⟩ := h
  exact h3.old
theorem MkS.llen (h : MkS G m0 m p room l) : l.length ≤ room := by
  obtain ⟨F, h1, h2, h3⟩ := h
  exact h1.llen
theorem MkS.small (h : MkS G m0 m p room l) : room ≤ 100000 := by
  obtain ⟨F, h1, h2, h3⟩ := h
  exact h1.small
theorem MkS.lt (h : MkS G m0 m p room l) : ∀ n, n ∈ l → n < room := by
  obtain ⟨F, h1, h2, h3⟩ := h
  exact h1.lt
theorem MkS.nodup (h : MkS G m0 m p room l) : l.Nodup := by
  obtain ⟨F, h1, h2, h3⟩ := h
  exact h1.nodup
end
end Go.Proofs.Ytkkcdfnlmhmheaa.Mk
/- Marks: pick, same, filled, Copy, Same. -/
namespace Go.Proofs.Ytkkcdfnlmhmheaa.Mk
open Go Go.Mv
set_option maxHeartbeats 1000000
set_option maxRecDepth 10000
set_option linter.unusedVariables false
set_option linter.unusedSimpArgs false
attribute [local irreducible] FCalls IntKind.wrap bits Mem.set Mem.setCell Mem.setCells YCalls
def Ints (m : Mem) (A : Option Addr) (xs : List Int) : Prop := xs = [] ∨ ∃ b i, A = some ⟨b, i, none⟩ ∧ ∀ k x, xs[k]? = some x → m.cell ⟨b, i + k, none⟩ = some (.int .i64 x)
theorem cell_more {m m' : Mem} (h : ∀ k o, m k = some o → m' k = some o) {a : Addr} {v : Value} (hc : m.cell a = some v) : m'.cell a = some v := by
  unfold Mem.cell at hc ⊢
  cases hm : m a.block with
  | none => rw [hm] at hc; cases hc
  | some o => rw [h _ _ hm]; rw [hm] at hc; exact hc
theorem Ints.more {m m' : Mem} {A : Option Addr} {xs : List Int} (h : Ints m A xs) (hm : ∀ k o, m k = some o → m' k = some o) : Ints m' A xs :=
  h.imp_right fun ⟨b, i, h1, h2⟩ => ⟨b, i, h1, fun k x hx => cell_more hm (h2 k x hx)⟩
theorem Ints.at {m : Mem} {A : Option Addr} {xs : List Int} {k : Nat} {x : Int} (h : Ints m A xs) (hx : xs[k]? = some x) : ∃ p, A = some p ∧ m.cell (p.add (k * (tbl.at 3).size)) = some (.int .i64 x) := by
  rcases h with rfl | ⟨b, j, rfl, h⟩
  · simp at hx
  · refine ⟨_, rfl, ?_⟩
    rw [add_mk]
    show m.cell ⟨b, j + k * 1, none⟩ = _
    rw [Nat.mul_one]
    exact h k x hx
theorem Ints.of_sl {m : Mem} {F : Nat → Prop} {A : Option Addr} {n c : Nat} {xs : List Int} (h : Sl m F A n c 1 (ints xs)) : Ints m A xs := by
  rcases hx : xs with _ | ⟨x, r⟩
  · exact .inl rfl
  · rw [← hx]
    obtain ⟨b, hA, _, _⟩ := h.cell (k := 0) (v := .int .i64 x) (by rw [hx]; rfl)
    refine .inr ⟨b, 0, hA, fun k y hk => ?_⟩
    obtain ⟨b', hA', _, hc, _⟩ := h.cell (ints_get hk)
    rw [hA] at hA'
    cases hA'
    rw [Nat.zero_add]
    exact hc
def pickI (c n : Int) : Int := (if c < 0 then -(c + 1) else c).tmod n
theorem pickI_in {c n : Int} (hn : 0 < n) : 0 ≤ pickI c n ∧ pickI c n < n := by
  have h0 : 0 ≤ (if c < 0 then -(c + 1) else c) := by split <;> omega
  exact ⟨Int.tmod_nonneg _ h0, Int.tmod_lt_of_pos _ hn⟩
theorem ixI {p : Addr} {k : Nat} : p.add ((k : Int).toNat * (tbl.at 3).size) = p.add (k * (tbl.at 3).size) := by
  rw [show (k : Int).toNat = k by omega]
def fillL (room : Nat) (zs : List Int) : List Nat := zs.foldl (putL room) []
end Go.Proofs.Ytkkcdfnlmhmheaa.Mk
/- Marks: the contracts by parts. -/
namespace Go.Proofs.Ytkkcdfnlmhmheaa.Mk
open Go Go.Mv
set_option maxHeartbeats 1000000
set_option maxRecDepth 10000
set_option linter.unusedVariables false
set_option linter.unusedSimpArgs false
attribute [local irreducible] FCalls IntKind.wrap bits Mem.set Mem.setCell Mem.setCells YCalls
/-- A set of numbers at p. -/
def mk (p room : Nat) (l : List Nat) : Asn := fun m => ∃ F, Mk F m p room l
section
variable {m : Mem} {p room : Nat} {l : List Nat}
theorem mk_more {m' : Mem} (h : mk p room l m) (hm : m.le m') : mk p room l m' := by
  obtain ⟨F, h⟩ := h
  exact ⟨F, h.stay (F2 := fun _ => False) (Stp.of hm) fun _ _ h => h⟩
theorem mk_at {L : List Asn} (h : Sep L m) (j : Nat) (hj : L[j]? = some (mk p room l)) : mk p room l m := by
  obtain ⟨m1, h1, h2⟩ := h.get j hj
  exact mk_more h2 h1
theorem Mk.on {F : Nat → Prop} {m' : Mem} (h : Mk F m p room l) (hk : ∀ k, F k → m' k = m k) : Mk F m' p room l := by
  obtain ⟨A, B, cA, cB, ws, h⟩ := h
  obtain ⟨e, he⟩ := h.hd
  exact ⟨A, B, cA, cB, ws, h.fp, ⟨e, by rw [hk p h.fp, he]⟩, h.wh.keep fun b hb _ => hk b hb.1, h.ls.keep fun b hb _ => hk b hb.1, h.lt, h.at', h.wlt, h.small, fun k hF => by rw [hk k hF]; exact h.own k hF⟩
/-- m, where F is. -/
noncomputable def only (m : Mem) (F : Nat → Prop) : Mem := fun k => open Classical in if F k then m k else none
theorem only_le {F : Nat → Prop} : (only m F).le m := fun k o h => by
  unfold only at h
  split at h
  · exact h
  · cases h
theorem only_apart {F : Nat → Prop} {m0 : Mem} (h : ∀ k, F k → m0 k = none) : (only m F).apart m0 := fun k => by
  by_cases hF : F k
  · exact .inr (h k hF)
  · exact .inl (by simp [only, hF])
theorem only_eq {F : Nat → Prop} {k : Nat} (h : F k) : only m F k = m k := by simp [only, h]
theorem sep_of_new {m0 : Mem} (h : MkS (fun _ => False) m0 m p room l) : Sep [mk p room l, kp m0] m := by
  obtain ⟨F, h1, h2, h3⟩ := h
  refine ⟨only m F, m0, only_apart fun k hk => (h2 k hk).resolve_left id, only_le, h3.old, ⟨F, h1.on fun k hk => only_eq hk⟩, m0, Mem.empty, fun _ => .inr rfl, Mem.le_refl _, fun _ _ h => (by cases h), Mem.le_refl _, trivial⟩
theorem sl_of_new {m0 : Mem} {A : Option Addr} {n c sz : Nat} {vs : List Value} (h : Sl m (fun k => m0 k = none) A n c sz vs) (hm : m0.le m) : Sep [sl A n c sz vs, kp m0] m := by
  refine ⟨only m (fun k => m0 k = none), m0, only_apart fun k hk => hk, only_le, hm, ?_, m0, Mem.empty, fun _ => .inr rfl, Mem.le_refl _, fun _ _ h => (by cases h), Mem.le_refl _, trivial⟩
  obtain ⟨h1, h2, h3⟩ := h
  refine ⟨h1, h2, h3.imp_right fun ⟨b, l, e, k1, k2, k3, k4, k5⟩ => ⟨b, 0, l, e, k1, ?_, by omega, fun k v hk => by rw [Nat.zero_add]; exact k5 k v hk⟩⟩
  rw [only_eq (F := fun k => m0 k = none) k2, k3]
theorem new_s {room : Int} : FCalls Try.prog 27 [.int .i64 room] m fun v m' =>
    (0 ≤ room ∧ room ≤ 100000 → ∃ p, v = .tuple #[.pointer (some ⟨p, 0, none⟩), .int .i64 0] ∧ Sep [mk p room.toNat [], kp m] m') ∧ (¬ (0 ≤ room ∧ room ≤ 100000) → v = .tuple #[.pointer none, .int .i64 1] ∧ m' = m) :=
  new_c.mono fun v m' ⟨h1, h2⟩ => ⟨fun h => by
    obtain ⟨p, h3, h4⟩ := h1 h
    exact ⟨p, h3, sep_of_new h4⟩, h2⟩
theorem put_s (h : mk p room l m) (n : Int) : FCalls Try.prog 71 [.pointer (some ⟨p, 0, none⟩), .int .i64 n] m fun v m' => v = .bool (decide (0 ≤ n ∧ n < room ∧ n.toNat ∉ l)) ∧ mk p room (putL room l n) m' := by
  obtain ⟨F, h⟩ := h
  exact (put_c h).mono fun v m' ⟨h1, F', h2, _⟩ => ⟨h1, F', h2⟩
theorem clear_s (h : mk p room l m) : FCalls Try.prog 64 [.pointer (some ⟨p, 0, none⟩)] m fun v m' => v = .tuple #[] ∧ mk p room [] m' := by
  obtain ⟨F, h⟩ := h
  exact (clear_c h).mono fun v m' ⟨h1, F', h2, _⟩ => ⟨h1, F', h2⟩
theorem has_s (h : mk p room l m) (n : Int) : FCalls Try.prog 83 [.pointer (some ⟨p, 0, none⟩), .int .i64 n] m fun v m' => v = .bool (decide (0 ≤ n ∧ n.toNat ∈ l)) ∧ m' = m := by
  obtain ⟨F, h⟩ := h
  exact has_c h
theorem all_s : FCalls Try.prog 58 [.pointer (some ⟨p, 0, none⟩)] m fun v m' => ∃ b, v = .func (.func 66) #[] #[.pointer (some ⟨b, 0, none⟩)] ∧ Sep [pt b [.pointer (some ⟨p, 0, none⟩)], kp m] m' :=
  all_c.mono fun v m' ⟨b, h1, h2, h3⟩ => ⟨b, h2, (Sep.init m).new' h1 h3⟩
/-- A range over All. -/
theorem range_all {ps : List Nat} {X Y : (Exit → St → Prop) → St → Prop} {K : Exit → St → Prop} {E : Env} {ls : List LC} {b : Nat} (hb : m.cell ⟨b, 0, none⟩ = some (.pointer (some ⟨p, 0, none⟩))) (hk : mk p room l m) (hps : ps.length = 1)
    (J : Nat → Mem → Prop) (h0 : J 0 m)
    (round : ∀ (i : Nat) (x : Nat) (m1 : Mem), l[i]? = some x → J i m1 → X (fun e S1 => match e with | .normal => Y (roundK fun e m2 => match e with | .normal => J (i + 1) m2 | e => K e ⟨E, ls, m2⟩) S1 | _ => False) ⟨parEnv ps [.int .i64 ((x : Nat) : Int)] (plainEnv E), [], m1⟩)
    (fin : ∀ m1, J l.length m1 → K .normal ⟨E, ls, m1⟩) : RangeP Try.prog 66 [] [.pointer (some ⟨b, 0, none⟩)] ps X Y K ⟨E, ls, m⟩ := by
  refine range_iter1 (all_iter b p room l) (fun y o hy => ?_) (fun i vs hx => ?_) J h0 (fun i vs m1 hx hJ => ?_) fun m1 hJ => fin m1 (by rw [List.length_map] at hJ; exact hJ)
  · obtain ⟨F, hF⟩ := mk_more hk (Mem.le_set (o := o) hy)
    exact ⟨Mem.le_cell (Mem.le_set hy) hb, F, hF⟩
  · obtain ⟨x, _, rfl⟩ := List.mem_map.1 (List.mem_of_getElem? hx)
    exact hps.symm
  · rw [List.getElem?_map] at hx
    cases hl : l[i]? with
    | none => rw [hl] at hx; cases hx
    | some x => rw [hl] at hx; cases hx; exact round i x m1 hl hJ
end
theorem nodup_sub {l r : List Nat} (h : l.Nodup) (hs : ∀ x, x ∈ l → x ∈ r) (hl : l.length = r.length) : ∀ x, x ∈ r → x ∈ l := by
  intro x hx
  apply Classical.byContradiction
  intro hn
  have h1 : l.length ≤ (r.erase x).length := h.length_le_of_subset fun y hy => by
    rw [List.mem_erase_of_ne (by rintro rfl; exact hn hy)]
    exact hs y hy
  rw [List.length_erase_of_mem hx] at h1
  have : 0 < r.length := List.length_pos_of_mem hx
  omega
theorem mk_nodup {m : Mem} {p room : Nat} {l : List Nat} (h : mk p room l m) : l.Nodup := by
  obtain ⟨F, h⟩ := h
  exact h.nodup
theorem mk_small {m : Mem} {p room : Nat} {l : List Nat} (h : mk p room l m) : room ≤ 100000 ∧ l.length ≤ room ∧ ∀ n, n ∈ l → n < room := by
  obtain ⟨F, h⟩ := h
  exact ⟨h.small, h.llen, h.lt⟩
end Go.Proofs.Ytkkcdfnlmhmheaa.Mk
/- Mv: iterators, by parts of memory; the range over them. -/
namespace Go.Mv
open Go
/-- A call of yield on the first part. -/
theorem Sep.ycalls {P : Program} {l : Nat} {args : List Value} {K : Value → Mem → Prop} {A : Asn} {R : List Asn} {m : Mem} (h : Sep (A :: R) m) (hc : ∀ m1, A m1 → YCalls P l args m1 K) :
    YCalls P l args m fun v m' => ∃ m1, K v m1 ∧ Beside R m1 m' := by
  obtain ⟨m1, m2, k1, k2, k3, k4, k5⟩ := h
  intro w hw
  have hwm : m1.sub w := fun b o hb => hw b o (k2 b o hb)
  have hwf : (m.without m1).sub w := fun b o hb => hw b o (by
    simp only [Mem.without] at hb
    split at hb
    · cases hb
    · exact hb)
  obtain ⟨fn, tmps, assign, body, h1, h2⟩ := hc m1 k4 w hwm
  refine ⟨fn, tmps, assign, body, h1, h2.mono fun e w' ⟨v, m', he, hK, hF⟩ => ?_⟩
  obtain ⟨h3, h4⟩ := hF.join (f := m.without m1) apart_without hwf
  rw [join_without k2] at h4
  exact ⟨v, _, he, ⟨m', hK, m.without m1, h3, Mem.le_join_left, Mem.le_join_right h3, k5.more (le_without k1 k3)⟩, h4⟩
/-- A loop's record. -/
def rcd (l : Nat) (rec : Loop) : Asn := fun m => m l = some (.loop rec)
theorem Sep.del {l : Nat} {rec : Loop} {L : List Asn} {m : Mem} (h : Sep (rcd l rec :: L) m) : Sep L (m.del l) ∧ m l = some (.loop rec) := by
  obtain ⟨m1, m2, k1, k2, k3, k4, k5⟩ := h
  refine ⟨k5.more fun k o hk => ?_, k2 _ _ k4⟩
  simp only [Mem.del]
  rw [if_neg]
  · exact k3 k o hk
  · rintro rfl
    rcases k1 k with hx | hx
    · rw [show m1 k = some (.loop rec) from k4] at hx; cases hx
    · rw [hx] at hk; cases hk
theorem Sep.rcd {l : Nat} {rec : Loop} {L : List Asn} {m : Mem} (h : Sep L m) (hl : m l = none) : Sep (rcd l rec :: L) (m.set l (.loop rec)) := by
  refine ⟨one l (.loop rec), m, fun k => ?_, fun k o hk => ?_, Mem.le_set hl, by simp [Mv.rcd, one], h⟩
  · by_cases hk : k = l
    · exact .inr (hk ▸ hl)
    · exact .inl (by simp [one, hk])
  · simp only [one] at hk
    split at hk
    · rename_i hkb
      subst hkb
      simpa [Mem.set] using hk
    · cases hk
theorem kp_rcd {l : Nat} {rec : Loop} {m3 mk : Mem} (hl : m3 l = none) (h : kp (m3.set l (.loop rec)) mk) : Sep [rcd l rec, kp m3] mk := by
  have h1 : mk l = some (.loop rec) := h l _ (by simp [Mem.set])
  have h2 : m3.le (mk.del l) := fun k o hk => by
    have hne : k ≠ l := by rintro rfl; rw [hl] at hk; cases hk
    simp only [Mem.del, if_neg hne]
    exact h k o (by rw [Mem.set_ne hne]; exact hk)
  have h3 : mk = (mk.del l).set l (.loop rec) := by
    funext k
    simp only [Mem.set, Mem.del]
    by_cases hk : k = l
    · subst hk; simp [h1]
    · simp [hk]
  rw [h3]
  refine Sep.rcd ?_ (by simp [Mem.del])
  exact ⟨mk.del l, Mem.empty, fun _ => .inr rfl, Mem.le_refl _, fun _ _ h => (by cases h), h2, trivial⟩
/-- f goes over N values; R i vs L: what the i-th values may be, L: new parts that come with them. A: the part that it needs; A': what it is made to ahead of the first value; I: what must stay so. -/
def IterS (P : Program) (f : Nat) (first cap : List Value) (A A' : Asn) (I : Mem → Prop) (N : Nat) (R : Nat → List Value → List Asn → Prop) : Prop :=
  ∀ (l : Nat) (J : Nat → Mem → Prop) (Q : Mem → Prop) (Rs : List Asn) (m : Mem), Sep (A :: Rs) m → (∀ M, Sep (A' :: Rs) M → J 0 M) → (∀ i m', J i m' → I m') →
    (∀ i vs L m' M, i < N → R i vs L → J i m' → Sep (L ++ [kp m']) M → YCalls P l vs M fun v m'' => (v = .bool true ∧ J (i + 1) m'') ∨ (v = .bool false ∧ Q m'')) →
    FCalls P f (first ++ [.func (.yield l) #[] #[]] ++ cap) m fun _ m' => J N m' ∨ Q m'
theorem range_iterS {P : Program} {f : Nat} {first cap : List Value} {ps : List Nat} {X Y : (Exit → St → Prop) → St → Prop} {K : Exit → St → Prop} {E : Env} {ls : List LC} {m : Mem} {A A' : Asn} {I : Mem → Prop} {N : Nat} {R : Nat → List Value → List Asn → Prop} {Rs : List Asn}
    (h : IterS P f first cap A A' I N R) (hI : ∀ m m', I m → m.le m' → I m') (hs : Sep (A :: Rs) m) (hps : ∀ i vs L, R i vs L → vs.length = ps.length)
    (J : Nat → Mem → Prop) (h0 : ∀ M, Sep (A' :: Rs) M → J 0 M) (hJ : ∀ i m, J i m → I m)
    (round : ∀ i vs L m1 M, i < N → R i vs L → J i m1 → Sep (L ++ [kp m1]) M → X (fun e S1 => match e with | .normal => Y (roundK fun e m2 => match e with | .normal => J (i + 1) m2 | e => K e ⟨E, ls, m2⟩) S1 | _ => False) ⟨parEnv ps vs (plainEnv E), [], M⟩)
    (fin : ∀ m1, J N m1 → K .normal ⟨E, ls, m1⟩) : RangeP P f first cap ps X Y K ⟨E, ls, m⟩ := by
  unfold RangeP
  intro l rec hl hst hpe hround
  have hrec : ({ rec with state := .ready, pending := none } : Loop) = rec := by cases rec; simp_all
  have hs1 : Sep (A :: rcd l rec :: Rs) (m.set l (.loop rec)) := (Sep.rcd hs hl).move 1 rfl
  refine FCalls.mono (h l (fun i M => ∃ m3, m3 l = none ∧ M = m3.set l (.loop rec) ∧ J i m3)
    (fun M => ∃ m3 e c, m3 l = none ∧ jumpOf e = some c ∧ M = m3.set l (.loop { rec with state := .done, pending := some c }) ∧ K e ⟨E, ls, m3⟩) _ _ hs1 (fun M hM => ?_) (fun i M ⟨m3, k1, k2, k3⟩ => k2 ▸ hI _ _ (hJ i m3 k3) (Mem.le_set k1)) fun i vs L m' M hi hR ⟨m3, h1, h2, h3⟩ hM => ?_) fun v M hM => ?_
  · obtain ⟨k1, k2⟩ := (show Sep (rcd l rec :: A' :: Rs) M from hM.move 1 rfl).del
    refine ⟨M.del l, by simp [Mem.del], ?_, h0 _ k1⟩
    funext k
    simp only [Mem.set, Mem.del]
    by_cases hk : k = l
    · subst hk; simp [k2]
    · simp [hk]
  · subst h2
    have hL : Sep (rcd l rec :: (L ++ [kp m3])) M := by
      have k1 : Sep (kp (m3.set l (.loop rec)) :: L) M := by
        have := hM.move (A := kp (m3.set l (.loop rec))) L.length (by simp)
        rw [List.eraseIdx_append_of_length_le (by omega)] at this
        simpa using this
      have k2 := k1.turn 0 (B := Sep [rcd l rec, kp m3]) rfl fun m1 _ hm => kp_rcd h1 hm
      have k3 : Sep (rcd l rec :: kp m3 :: L) M := Sep.split k2
      obtain ⟨a, b, q1, q2, q3, q4, q5⟩ := k3
      refine ⟨a, b, q1, q2, q3, q4, ?_⟩
      have := q5.back (j := L.length) (by omega)
      rwa [show L.insertIdx L.length (kp m3) = L ++ [kp m3] by simp] at this
    obtain ⟨k1, k2⟩ := hL.del
    have hy := hround vs M (fun e m2 => match e with | .normal => J (i + 1) m2 | e => K e ⟨E, ls, m2⟩) k2 (hps i vs L hR) (round i vs L m3 (M.del l) hi hR h3 k1)
    refine hy.mono fun v M' ⟨m4, k1, k2⟩ => ?_
    rcases k2 with ⟨rfl, k3, k4⟩ | ⟨rfl, e, c, k3, k4, k5⟩
    · exact .inl ⟨rfl, m4, k1, k3, k4⟩
    · refine .inr ⟨rfl, m4, e, c, k1, k3, k4, ?_⟩
      cases e <;> first | exact k5 | simp [jumpOf] at k3
  · rcases hM with ⟨m3, h1, rfl, h3⟩ | ⟨m3, e, c, h1, h2, rfl, h3⟩
    · refine ⟨.ready, none, by simp, by simp [Mem.set, hrec], ?_⟩
      rw [set_del h1]
      exact fin m3 h3
    · refine ⟨.done, some c, by simp, by simp [Mem.set], ?_⟩
      rw [set_del h1]
      cases e <;> simp only [jumpOf, Option.some.injEq, reduceCtorEq] at h2 <;> subst h2 <;> exact h3
theorem Sep.last {L : List Asn} {m : Mem} {A B : Asn} (h : Sep (A :: L) m) (hB : ∀ M, Sep L M → B M) : Sep [B, A] m := by
  obtain ⟨m1, m2, k1, k2, k3, k4, k5⟩ := h
  exact ⟨m2, m1, fun k => (k1 k).symm, k3, k2, hB _ k5, m1, Mem.empty, fun _ => .inr rfl, Mem.le_refl _, fun _ _ h => (by cases h), k4, trivial⟩
end Go.Mv
/- Rows of numbers in memory; slices.Equal, hash of the table. -/
namespace Go.Proofs.Ytkkcdfnlmhmheaa
open Go Go.Mv
set_option maxHeartbeats 400000
set_option linter.unusedVariables false
set_option linter.unusedSimpArgs false
attribute [local irreducible] FCalls IntKind.wrap bits Mem.set Mem.setCell Mem.setCells
def Ints (m : Mem) (A : Option Addr) (xs : List Int) : Prop := xs = [] ∨ ∃ b i, A = some ⟨b, i, none⟩ ∧ ∀ k x, xs[k]? = some x → m.cell ⟨b, i + k, none⟩ = some (.int .i64 x)
theorem Ints.at {m : Mem} {A : Option Addr} {xs : List Int} {i : Int} (h : Ints m A xs) (h0 : 0 ≤ i) (h1 : i < xs.length) : ∃ p, A = some p ∧ m.cell (p.add (i.toNat * 1)) = some (.int .i64 (xs.getD i.toNat 0)) := by
  rcases h with rfl | ⟨b, j, rfl, h⟩
  · simp at h1; omega
  · refine ⟨_, rfl, ?_⟩
    rw [add_mk, Nat.mul_one]
    refine h _ _ ?_
    have : i.toNat < xs.length := by omega
    simp [List.getD, this]
theorem list_eq_of_getD {xs ys : List Int} (hl : xs.length = ys.length) (h : ∀ k, k < xs.length → xs.getD k 0 = ys.getD k 0) : xs = ys := by
  apply List.ext_getElem hl
  intro k h1 h2
  have := h k h1
  simpa [List.getD, h1, h2] using this
theorem equal_c {m : Mem} {A B : Option Addr} {xs ys : List Int} {c d : Nat} (hA : Ints m A xs) (hB : Ints m B ys) (hn : xs.length < 2 ^ 62) : FCalls Try.prog 70 [.slice A xs.length c, .slice B ys.length d] m fun v m' => v = .bool (decide (xs = ys)) ∧ m' = m := by
  refine fcalls_of_vc (T := tbl) (B := bodies) (pr := []) (DR := dr70) (args := [.v (.slice A xs.length c), .v (.slice B ys.length d)]) tbl_ok bodies_ok mixed Try.func70 rfl (by decide +kernel) (by simp [Try.f70]) rfl ?_
  (conv => whnf)
  refine brk_intro (fun h => ?_) (fun h => ?_)
  · (conv => whnf)
    refine ⟨?_, rfl⟩
    have : xs ≠ ys := by rintro rfl; simp at h
    simp [single, this]
  · have hlen : xs.length = ys.length := by
      have : (xs.length : Int) = ys.length := by simpa using h
      omega
    (conv => whnf)
    refine loop_keep [0, 1, 12] Int (fun i => [(13, .v (.int .i64 i))]) (fun _ => []) (fun _ => m) (fun i => 0 ≤ i ∧ i ≤ xs.length ∧ ∀ k, k < i.toNat → xs.getD k 0 = ys.getD k 0) (fun i => xs.length - i.toNat) 0 ⟨rfl, trivial⟩ rfl rfl ⟨by omega, by omega, by simp⟩ ?_
    (conv => whnf)
    refine ⟨rfl, fun i hJ => ?_⟩
    obtain ⟨hJ1, hJ2, hJ3⟩ := hJ
    (conv => whnf)
    refine brk_intro (fun h1 => ?_) (fun h1 => ?_)
    · have h1 : i < xs.length := by simpa using h1
      obtain ⟨p, hp, hx⟩ := hA.at hJ1 h1
      obtain ⟨q, hq, hy⟩ := hB.at hJ1 (by omega)
      (conv => whnf)
      refine ⟨p, hp, hJ1, h1, ?_⟩
      (conv => whnf)
      refine ⟨_, hx, ?_⟩
      (conv => whnf)
      refine ⟨q, hq, hJ1, by omega, ?_⟩
      (conv => whnf)
      refine ⟨_, hy, ?_⟩
      (conv => whnf)
      refine brk_intro (fun h2 => ?_) (fun h2 => ?_)
      · (conv => whnf)
        refine ⟨?_, rfl⟩
        have : xs ≠ ys := by rintro rfl; simp at h2
        simp [single, this]
      · (conv => whnf)
        have hw : IntKind.i64.wrap (i + 1) = i + 1 := wrap_id (by omega) (by omega)
        refine ⟨_, le_of ⟨rfl, rfl, rfl, rfl, trivial⟩ rfl, ?_⟩
        rw [hw]
        refine ⟨⟨by omega, by omega, fun k hk => ?_⟩, by omega⟩
        by_cases hki : k = i.toNat
        · subst hki
          simpa using h2
        · exact hJ3 k (by omega)
    · have h1 : ¬ i < xs.length := by simpa using h1
      (conv => whnf)
      refine ⟨?_, rfl⟩
      have : xs = ys := list_eq_of_getD hlen fun k hk => hJ3 k (by omega)
      simp [single, this]
end Go.Proofs.Ytkkcdfnlmhmheaa
/- The table: places, the mix of a key, where a key stands. -/
namespace Go.Proofs.Ytkkcdfnlmhmheaa
open Go Go.Mv
set_option maxHeartbeats 400000
set_option linter.unusedVariables false
set_option linter.unusedSimpArgs false
attribute [local irreducible] FCalls IntKind.wrap bits Mem.set Mem.setCell Mem.setCells
def hstep (h n : Int) : Int :=
  let a := IntKind.u64.wrap (bits .xor .u64 h (IntKind.u64.wrap n) * 18397679294719823053)
  bits .xor .u64 a (a.fdiv (2 ^ (min 32 64)))
def hashOf (xs : List Int) : Int := xs.foldl hstep 11400714819323198485
theorem take_succ_getD {xs : List Int} {i : Nat} (h : i < xs.length) : xs.take (i + 1) = xs.take i ++ [xs.getD i 0] := by
  rw [List.take_add_one]
  simp [List.getD, h]
theorem hash_c {m : Mem} {A : Option Addr} {xs : List Int} {c : Nat} (hA : Ints m A xs) (hn : xs.length < 2 ^ 62) : FCalls Try.prog 61 [.slice A xs.length c] m fun v m' => v = .int .u64 (hashOf xs) ∧ m' = m := by
  refine fcalls_of_vc (T := tbl) (B := bodies) (pr := []) (DR := dr61) (args := [.v (.slice A xs.length c)]) tbl_ok bodies_ok mixed Try.func61 rfl (by decide +kernel) (by simp [Try.f61]) rfl ?_
  (conv => whnf)
  refine loop_keep [6, 7] (Int × Int) (fun s => [(8, .v (.int .i64 s.1)), (3, .v (.int .u64 s.2))]) (fun _ => []) (fun _ => m) (fun s => 0 ≤ s.1 ∧ s.1 ≤ xs.length ∧ s.2 = hashOf (xs.take s.1.toNat)) (fun s => xs.length - s.1.toNat) (0, 11400714819323198485) ⟨rfl, rfl, trivial⟩ rfl rfl ⟨by simp, by simp, rfl⟩ ?_
  (conv => whnf)
  refine ⟨rfl, fun s hJ => ?_⟩
  obtain ⟨i, h⟩ := s
  obtain ⟨hJ1, hJ2, hJ3⟩ := hJ
  dsimp only at hJ1 hJ2 hJ3
  (conv => whnf)
  refine brk_intro (fun h1 => ?_) (fun h1 => ?_)
  · have h1 : i < xs.length := by simpa using h1
    obtain ⟨p, hp, hx⟩ := hA.at hJ1 h1
    (conv => whnf)
    refine ⟨p, hp, hJ1, h1, ?_⟩
    (conv => whnf)
    refine ⟨_, hx, ?_⟩
    (conv => whnf)
    refine ⟨by decide, ?_⟩
    (conv => whnf)
    have hw : IntKind.i64.wrap (i + 1) = i + 1 := wrap_id (by omega) (by omega)
    refine ⟨(_, _), le_of ⟨rfl, rfl, rfl, rfl, trivial⟩ rfl, ?_⟩
    dsimp only
    rw [hw]
    refine ⟨⟨by omega, by omega, ?_⟩, by omega⟩
    have : (i + 1).toNat = i.toNat + 1 := by omega
    have hi : i.toNat < xs.length := by omega
    rw [this, take_succ_getD hi, hashOf, List.foldl_append]
    rw [hJ3]
    rfl
  · have h1 : ¬ i < xs.length := by simpa using h1
    (conv => whnf)
    refine ⟨?_, rfl⟩
    have : xs.take i.toNat = xs := List.take_of_length_le (by omega)
    rw [this] at hJ3
    rw [hJ3]
    rfl
end Go.Proofs.Ytkkcdfnlmhmheaa
/- The table: places; where a key stands. -/
namespace Go.Proofs.Ytkkcdfnlmhmheaa
open Go Go.Mv
set_option maxHeartbeats 400000
set_option linter.unusedVariables false
set_option linter.unusedSimpArgs false
attribute [local irreducible] FCalls IntKind.wrap bits Mem.set Mem.setCell Mem.setCells
/-- A place. -/
structure Slt where
  used : Bool
  h : Int
  kA : Option Addr
  ks : List Int
  kc : Nat
  v : Int
def Slt.zero : Slt := ⟨false, 0, none, [], 0, 0⟩
def Slt.cells (s : Slt) : List Value := [.bool s.used, .int .u64 s.h, .slice s.kA s.ks.length s.kc, .int .i64 s.v]
def cellsOf (l : List Slt) : List Value := l.flatMap Slt.cells
theorem cellsOf_at : ∀ {l : List Slt} {i f : Nat} {s : Slt}, l[i]? = some s → f < 4 → (cellsOf l)[i * 4 + f]? = s.cells[f]?
  | [], _, _, _, h, _ => by simp at h
  | t :: r, 0, f, s, h, hf => by
    simp at h
    subst h
    show (t.cells ++ cellsOf r)[0 * 4 + f]? = _
    rw [List.getElem?_append_left (by simp [Slt.cells]; omega)]
    simp
  | t :: r, i + 1, f, s, h, hf => by
    simp at h
    show (t.cells ++ cellsOf r)[(i + 1) * 4 + f]? = _
    rw [List.getElem?_append_right (by simp [Slt.cells]; omega)]
    rw [← cellsOf_at (l := r) h hf]
    congr 1
    simp [Slt.cells]
    omega
theorem cellsOf_length : ∀ {l : List Slt}, (cellsOf l).length = l.length * 4
  | [] => rfl
  | t :: r => by
    show (t.cells ++ cellsOf r).length = _
    simp [cellsOf_length (l := r), Slt.cells]
    omega
theorem slot_cell {m : Mem} {q : Nat} {l : List Slt} {i f z : Nat} {s : Slt} {v : Value} (h : Blk m q (cellsOf l)) (hs : l[i]? = some s) (hf : f < 4) (hz : z = 4) (hv : s.cells[f]? = some v) : m.cell (((⟨q, 0, none⟩ : Addr).add (i * z)).add f) = some v := by
  rw [hz, add_mk, add_mk, Nat.zero_add]
  exact h.cell ((cellsOf_at hs hf).trans hv)
/-- The block of a row is not this one. -/
def Off (A : Option Addr) (xs : List Int) (b : Nat) : Prop := xs = [] ∨ ∀ p, A = some p → p.block ≠ b
/-- Memory is as it was but for some blocks. -/
def Keep (bad : List Nat) (m m' : Mem) : Prop := ∀ b o, m b = some o → b ∉ bad → m' b = some o
theorem Keep.refl {bad : List Nat} {m : Mem} : Keep bad m m := fun _ _ h _ => h
theorem Keep.trans {bad : List Nat} {m m' m'' : Mem} (h : Keep bad m m') (k : Keep bad m' m'') : Keep bad m m'' := fun b o h1 h2 => k b o (h b o h1 h2) h2
theorem Keep.more {bad bad' : List Nat} {m m' : Mem} (h : Keep bad m m') (hs : ∀ b, b ∈ bad → b ∈ bad') : Keep bad' m m' := fun b o h1 h2 => h b o h1 fun h3 => h2 (hs b h3)
theorem Keep.blk {bad : List Nat} {m m' : Mem} (h : Keep bad m m') {b : Nat} {l : List Value} (hb : Blk m b l) (hn : b ∉ bad) : Blk m' b l := by
  obtain ⟨e, hb⟩ := hb
  exact ⟨e, h b _ hb hn⟩
theorem Keep.set {bad : List Nat} {m : Mem} {b : Nat} {o : Obj} (hb : m b = none) : Keep bad m (m.set b o) := fun c o' h1 _ => by
  rw [Mem.set_ne]
  · exact h1
  · rintro rfl
    rw [h1] at hb
    cases hb
theorem Keep.cell {bad : List Nat} {m : Mem} {b i : Nat} {v : Value} (hb : b ∈ bad) : Keep bad m (m.setCell ⟨b, i, none⟩ v) := fun c o h1 h2 => by
  rw [Mem.setCell_ne]
  · exact h1
  · rintro rfl
    exact h2 hb
theorem Keep.cells {bad : List Nat} {m : Mem} {b i j : Nat} {vs : List Value} (hb : b ∈ bad) : Keep bad m (m.setCells ⟨b, i, none⟩ j vs) := fun c o h1 h2 => by
  rw [Mem.setCells_ne]
  · exact h1
  · rintro rfl
    exact h2 hb
theorem Ints.keep {bad : List Nat} {m m' : Mem} {A : Option Addr} {xs : List Int} (h : Ints m A xs) (hk : Keep bad m m') (ho : ∀ b, b ∈ bad → Off A xs b) : Ints m' A xs := by
  rcases h with rfl | ⟨b, i, rfl, h⟩
  · exact .inl rfl
  · by_cases hx : xs = []
    · exact .inl hx
    · have hb : b ∉ bad := by
        intro hb
        rcases ho b hb with h1 | h1
        · exact hx h1
        · exact h1 _ rfl rfl
      refine .inr ⟨b, i, rfl, fun k x hxk => ?_⟩
      have hc := h k x hxk
      rw [← hc]
      unfold Mem.cell
      cases hm : m b with
      | none =>
        unfold Mem.cell at hc
        simp [hm] at hc
      | some o => simp only [hm, hk b o hm hb]
theorem Ints.off_new {m : Mem} {A : Option Addr} {xs : List Int} {b : Nat} (h : Ints m A xs) (hb : m b = none) : Off A xs b := by
  rcases h with rfl | ⟨c, i, rfl, h⟩
  · exact .inl rfl
  · cases xs with
    | nil => exact .inl rfl
    | cons x r =>
      refine .inr fun p hp => ?_
      cases hp
      rintro rfl
      have := h 0 x rfl
      simp [Mem.cell, hb] at this
/-- A table at p: its numbers, its places in q. -/
structure Tab where
  w : Int
  most : Int
  sl : List Slt
  q : Nat
  many : Int
  /-- Blocks in which no key stands. -/
  g : Nat → Prop
def Tab.sA (t : Tab) : Option Addr := if t.sl = [] then none else some ⟨t.q, 0, none⟩
structure TabAt (m : Mem) (p : Nat) (t : Tab) : Prop where
  head : Blk m p [.int .i64 t.w, .int .i64 t.most, .slice t.sA t.sl.length t.sl.length, .int .i64 t.many]
  places : t.sl ≠ [] → Blk m t.q (cellsOf t.sl) ∧ p ≠ t.q
  keys : ∀ s, s ∈ t.sl → Ints m s.kA s.ks ∧ Off s.kA s.ks p ∧ Off s.kA s.ks t.q ∧ s.ks.length < 2 ^ 62 ∧ ∀ b, t.g b → Off s.kA s.ks b
  size : t.sl.length < 2 ^ 40
  far : ∀ b, t.g b → m b ≠ none ∧ b ≠ p ∧ (t.sl ≠ [] → b ≠ t.q)
theorem dom_set {m : Mem} {b c : Nat} {o : Obj} (h : m b ≠ none) : (m.set c o) b ≠ none := by
  unfold Mem.set
  split
  · simp
  · exact h
theorem dom_setCell {m : Mem} {b : Nat} {a : Addr} {v : Value} (h : m b ≠ none) : (m.setCell a v) b ≠ none := by
  unfold Mem.setCell
  split
  · rename_i hb
    cases hm : m b with
    | none => exact absurd hm h
    | some o => cases o <;> simp
  · exact h
theorem dom_setCells {b : Nat} : ∀ (vs : List Value) {m : Mem} {a : Addr} {j : Nat}, m b ≠ none → (m.setCells a j vs) b ≠ none
  | [], _, _, _, h => by simp only [Mem.setCells]; exact h
  | v :: r, m, a, j, h => by simp only [Mem.setCells]; exact dom_setCells r (dom_setCell h)
theorem dom_keep {bad : List Nat} {m m' : Mem} (h : Keep bad m m') {b : Nat} (hb : m b ≠ none) (hn : b ∉ bad) : m' b ≠ none := by
  cases hm : m b with
  | none => exact absurd hm hb
  | some o => rw [h b o hm hn]; simp
/-- Where the search for a key ends: at a place that is free or holds it. -/
def stopAt (ks : List Int) (h : Int) (s : Slt) : Bool := !s.used || (s.h == h && decide (s.ks = ks))
def atGo (sl : List Slt) (ks : List Int) (h : Int) : Nat → Nat → Option Nat
  | 0, _ => none
  | f + 1, i => if stopAt ks h (sl.getD i .zero) then some i else atGo sl ks h f ((i + 1) % sl.length)
theorem mask_spec {n k : Nat} (hn : n = 2 ^ k) (hk : k < 40) (x : Int) : bits .and .i64 x (IntKind.i64.wrap ((n : Int) - 1)) = x % n := by
  have h1 : (n : Int) = 2 ^ k := by simp [hn]
  have h2 : 2 ^ k < 2 ^ 40 := Nat.pow_lt_pow_right (by omega) hk
  have h3 : 0 < 2 ^ k := Nat.two_pow_pos k
  rw [wrap_id (by omega) (by omega), h1]
  exact and_mask (by omega) x
theorem wrap_mod {n k : Nat} (hn : n = 2 ^ k) (hk : k < 40) (x : Int) : IntKind.i64.wrap x % n = x % n := by
  rw [IntKind.wrap_i64]
  have hd : (n : Int) ∣ 18446744073709551616 := ⟨((2 ^ (64 - k) : Nat) : Int), by rw [hn, ← Int.natCast_mul, ← Nat.pow_add, show k + (64 - k) = 64 by omega]; rfl⟩
  rw [Int.sub_emod, Int.emod_emod_of_dvd _ hd, ← Int.sub_emod]
  congr 1
  omega
theorem at_c {m : Mem} {p : Nat} {t : Tab} {A : Option Addr} {ks : List Int} {c k r : Nat} {h : Int} (ht : TabAt m p t) (hA : Ints m A ks) (hks : ks.length < 2 ^ 62) (hn : t.sl.length = 2 ^ k) (hk : k < 40)
    (hr : atGo t.sl ks h t.sl.length (h % t.sl.length).toNat = some r) : FCalls Try.prog 60 [.pointer (some ⟨p, 0, none⟩), .slice A ks.length c, .int .u64 h] m fun v m' => v = .int .i64 r ∧ m' = m := by
  have hpos : 0 < t.sl.length := by rw [hn]; exact Nat.two_pow_pos k
  have hne : t.sl ≠ [] := by intro e; rw [e] at hpos; simp at hpos
  obtain ⟨hq, hpq⟩ := ht.places hne
  have hsA : t.sA = some ⟨t.q, 0, none⟩ := if_neg hne
  have hhead := ht.head
  rw [hsA] at hhead
  have hsz := ht.size
  refine fcalls_of_vc (T := tbl) (B := bodies) (pr := []) (DR := dr60) (args := [.v (.pointer (some ⟨p, 0, none⟩)), .v (.slice A ks.length c), .v (.int .u64 h)]) tbl_ok bodies_ok mixed Try.func60 rfl (by decide +kernel) (by simp [Try.f60]) rfl ?_
  (conv => whnf)
  refine ⟨_, _, _, hhead.cell (i := 2) rfl, ?_⟩
  (conv => whnf)
  have hmask := fun x => mask_spec hn hk x
  refine loop_keep [0, 1, 2, 7] (Int × Nat) (fun s => [(8, .v (.int .i64 s.1))]) (fun _ => []) (fun _ => m) (fun s => 0 ≤ s.1 ∧ s.1 < t.sl.length ∧ atGo t.sl ks h s.2 s.1.toNat = some r) (fun s => s.2) (_, t.sl.length) ⟨rfl, trivial⟩ rfl rfl ?_ ?_
  · dsimp only
    rw [hmask, wrap_mod hn hk]
    exact ⟨Int.emod_nonneg _ (by omega), Int.emod_lt_of_pos _ (by omega), hr⟩
  (conv => whnf)
  refine ⟨rfl, fun s hJ => ?_⟩
  obtain ⟨i, f⟩ := s
  obtain ⟨hJ1, hJ2, hJ3⟩ := hJ
  dsimp only at hJ1 hJ2 hJ3
  obtain ⟨s, hs⟩ : ∃ s, t.sl[i.toNat]? = some s := ⟨t.sl[i.toNat]'(by omega), List.getElem?_eq_getElem (by omega)⟩
  have hsD : t.sl.getD i.toNat .zero = s := by simp [List.getD, hs]
  have hmem : s ∈ t.sl := List.mem_of_getElem? hs
  obtain ⟨f, rfl⟩ : ∃ f', f = f' + 1 := by
    cases f with
    | zero => simp [atGo] at hJ3
    | succ f => exact ⟨f, rfl⟩
  rw [atGo, hsD] at hJ3
  have hi1 : IntKind.i64.wrap (i + 1) = i + 1 := wrap_id (by omega) (by omega)
  have hnext : ∀ x, x = bits .and .i64 (IntKind.i64.wrap (i + 1)) (IntKind.i64.wrap ((t.sl.length : Int) - 1)) → x.toNat = (i.toNat + 1) % t.sl.length ∧ 0 ≤ x ∧ x < t.sl.length := by
    intro x hx
    rw [hmask, hi1] at hx
    have h2 : x = (((i.toNat + 1) % t.sl.length : Nat) : Int) := by
      rw [hx, Int.natCast_emod]
      congr 1
      omega
    have h3 := Nat.mod_lt (i.toNat + 1) hpos
    omega
  (conv => whnf)
  refine ⟨_, _, _, hhead.cell (i := 2) rfl, ?_⟩
  (conv => whnf)
  refine ⟨_, rfl, hJ1, hJ2, ?_⟩
  (conv => whnf)
  refine ⟨_, slot_cell hq hs (f := 0) (by decide) rfl rfl, ?_⟩
  (conv => whnf)
  refine brk_intro (fun h1 => ?_) (fun h1 => ?_)
  · have hu : s.used = true := by simpa using h1
    (conv => whnf)
    refine ⟨_, slot_cell hq hs (f := 1) (by decide) rfl rfl, ?_⟩
    (conv => whnf)
    refine brk_intro (fun h2 => ?_) (fun h2 => ?_)
    · (conv => whnf)
      refine ⟨_, _, _, slot_cell hq hs (f := 2) (by decide) rfl rfl, ?_⟩
      (conv => whnf)
      refine FCalls.mono (equal_c (ht.keys s hmem).1 hA (ht.keys s hmem).2.2.2.1) ?_
      rintro v m' ⟨rfl, rfl⟩
      (conv => whnf)
      refine brk_intro (fun h3 => ?_) (fun h3 => ?_)
      · have hstop : stopAt ks h s = true := by
          simp at h2 h3
          simp [stopAt, h2, h3, hu]
        rw [if_pos hstop] at hJ3
        (conv => whnf)
        have : i = (r : Int) := by simp at hJ3; omega
        subst this
        exact ⟨rfl, rfl⟩
      · have hstop : stopAt ks h s = false := by
          simp at h2 h3
          simp [stopAt, h2, h3, hu]
        rw [hstop] at hJ3
        (conv => whnf)
        refine ⟨(_, f), le_of ⟨rfl, rfl, rfl, rfl, rfl, trivial⟩ rfl, ?_⟩
        have hx := hnext _ rfl
        refine ⟨⟨hx.2.1, hx.2.2, ?_⟩, Nat.lt_succ_self f⟩
        dsimp only
        rw [hx.1]
        simpa using hJ3
    · have hstop : stopAt ks h s = false := by
        simp at h2
        simp [stopAt, h2, hu]
      rw [hstop] at hJ3
      (conv => whnf)
      refine ⟨(_, f), le_of ⟨rfl, rfl, rfl, rfl, rfl, trivial⟩ rfl, ?_⟩
      have hx := hnext _ rfl
      refine ⟨⟨hx.2.1, hx.2.2, ?_⟩, Nat.lt_succ_self f⟩
      dsimp only
      rw [hx.1]
      simpa using hJ3
  · have hu : s.used = false := by simpa using h1
    have hstop : stopAt ks h s = true := by simp [stopAt, hu]
    rw [if_pos hstop] at hJ3
    (conv => whnf)
    have : i = (r : Int) := by simp at hJ3; omega
    subst this
    exact ⟨rfl, rfl⟩
end Go.Proofs.Ytkkcdfnlmhmheaa
/- The table's law: no program in sight. -/
namespace Go.Proofs.Ytkkcdfnlmhmheaa
open Go Go.Mv
set_option maxHeartbeats 1000000
set_option linter.unusedVariables false
set_option linter.unusedSimpArgs false
/-- How far it is from a on to b, round about of n. -/
def dist (n a b : Nat) : Nat := if a ≤ b then b - a else b + n - a
def nxt (n i : Nat) : Nat := if i + 1 = n then 0 else i + 1
theorem dist_cases (n a b : Nat) : (a ≤ b ∧ dist n a b = b - a) ∨ (b < a ∧ dist n a b = b + n - a) := by
  unfold dist
  split
  · exact .inl ⟨by omega, rfl⟩
  · exact .inr ⟨by omega, rfl⟩
theorem nxt_cases (n a : Nat) : (a + 1 = n ∧ nxt n a = 0) ∨ (a + 1 ≠ n ∧ nxt n a = a + 1) := by
  unfold nxt
  split
  · exact .inl ⟨by omega, rfl⟩
  · exact .inr ⟨by omega, rfl⟩
theorem dist_lt {n a b : Nat} (ha : a < n) (hb : b < n) : dist n a b < n := by unfold dist; split <;> omega
theorem dist_self {n a : Nat} : dist n a a = 0 := by simp [dist]
theorem dist_zero {n a b : Nat} (ha : a < n) (hb : b < n) (h : dist n a b = 0) : a = b := by unfold dist at h; split at h <;> omega
theorem nxt_eq {n i : Nat} (h : i < n) : (i + 1) % n = nxt n i := by
  unfold nxt
  split
  · subst_vars; exact Nat.mod_self _
  · exact Nat.mod_eq_of_lt (by omega)
theorem nxt_lt {n i : Nat} (h : i < n) : nxt n i < n := by unfold nxt; split <;> omega
theorem dist_nxt {n a b : Nat} (ha : a < n) (hb : b < n) (h : a ≠ b) : dist n (nxt n a) b + 1 = dist n a b := by
  unfold nxt dist
  split <;> (try split) <;> (try split) <;> omega
theorem dist_nxt_self {n a : Nat} (ha : a < n) : dist n (nxt n a) a = n - 1 := by
  unfold nxt dist
  split <;> (try split) <;> omega
theorem nxt_inj {n a b : Nat} (ha : a < n) (hb : b < n) (h : nxt n a = nxt n b) : a = b := by
  unfold nxt at h
  split at h <;> split at h <;> omega

theorem atGo_spec {sl : List Slt} {ks : List Int} {h : Int} {r : Nat} (hr : r < sl.length) (hs : stopAt ks h (sl.getD r .zero) = true) : ∀ (fuel i : Nat), i < sl.length → dist sl.length i r < fuel →
    (∀ x, x < sl.length → dist sl.length i x < dist sl.length i r → stopAt ks h (sl.getD x .zero) = false) → atGo sl ks h fuel i = some r
  | 0, _, _, h, _ => by omega
  | fuel + 1, i, hi, hf, hx => by
    rw [atGo]
    by_cases hir : i = r
    · subst hir
      rw [if_pos hs]
    · have h0 : 0 < dist sl.length i r := by
        rcases Nat.eq_zero_or_pos (dist sl.length i r) with h0 | h0
        · exact absurd (dist_zero hi hr h0) hir
        · exact h0
      have := hx i hi (by rw [dist_self]; exact h0)
      rw [this, if_neg (by simp), nxt_eq hi]
      have hd := dist_nxt hi hr hir
      refine atGo_spec hr hs fuel _ (nxt_lt hi) (by omega) fun x hxl hlt => ?_
      have hxi : i ≠ x := by
        rintro rfl
        rw [dist_nxt_self hi] at hlt
        have := dist_lt (nxt_lt hi) hr
        omega
      have := dist_nxt hi hxl hxi
      exact hx x hxl (by omega)

def home (n : Nat) (s : Slt) : Nat := (s.h % n).toNat
theorem home_lt {n : Nat} {s : Slt} (h : 0 < n) : home n s < n := by
  unfold home
  have := Int.emod_lt_of_pos s.h (show (0 : Int) < n by omega)
  have := Int.emod_nonneg s.h (show (n : Int) ≠ 0 by omega)
  omega
def Used (sl : List Slt) (i : Nat) : Prop := ∃ s, sl[i]? = some s ∧ s.used = true
/-- A good list of places. -/
structure Good (sl : List Slt) : Prop where
  pow : ∃ k, k < 40 ∧ sl.length = 2 ^ k
  hash : ∀ s, s ∈ sl → s.used = true → s.h = hashOf s.ks
  one : ∀ (i j : Nat) (s t : Slt), sl[i]? = some s → sl[j]? = some t → s.used = true → t.used = true → s.ks = t.ks → i = j
  path : ∀ (i : Nat) (s : Slt), sl[i]? = some s → s.used = true → ∀ x, x < sl.length → dist sl.length (home sl.length s) x < dist sl.length (home sl.length s) i → Used sl x
  free : ∃ (i : Nat) (s : Slt), sl[i]? = some s ∧ s.used = false
theorem Good.pos {sl : List Slt} (h : Good sl) : 0 < sl.length := by
  obtain ⟨k, _, h⟩ := h.pow
  rw [h]
  exact Nat.two_pow_pos k
theorem getD_of {sl : List Slt} {i : Nat} {s : Slt} (h : sl[i]? = some s) : sl.getD i .zero = s := by simp [List.getD, h]
theorem lt_of {sl : List Slt} {i : Nat} {s : Slt} (h : sl[i]? = some s) : i < sl.length := (List.getElem?_eq_some_iff.1 h).1
theorem at_found {sl : List Slt} (hg : Good sl) {j : Nat} {s : Slt} (hj : sl[j]? = some s) (hu : s.used = true) : atGo sl s.ks (hashOf s.ks) sl.length (hashOf s.ks % sl.length).toNat = some j := by
  have hh := hg.hash s (List.mem_of_getElem? hj) hu
  have hhome : (hashOf s.ks % sl.length).toNat = home sl.length s := by rw [← hh]; rfl
  have hl := lt_of hj
  rw [hhome]
  refine atGo_spec hl (by rw [getD_of hj]; simp [stopAt, hh]) _ _ (home_lt hg.pos) (dist_lt (home_lt hg.pos) hl) fun x hx hlt => ?_
  obtain ⟨t, ht, htu⟩ := hg.path j s hj hu x hx hlt
  rw [getD_of ht]
  simp only [stopAt, htu, Bool.not_true, Bool.false_or, Bool.and_eq_false_imp]
  intro _
  rw [decide_eq_false_iff_not]
  intro hks
  have := hg.one x j t s ht hj htu hu hks
  subst this
  omega
/-- The first free place from i on. -/
theorem first_free {sl : List Slt} {i : Nat} (hi : i < sl.length) (hf : ∃ (r : Nat) (s : Slt), sl[r]? = some s ∧ s.used = false) :
    ∃ (r : Nat) (s : Slt), sl[r]? = some s ∧ s.used = false ∧ ∀ x, x < sl.length → dist sl.length i x < dist sl.length i r → Used sl x := by
  obtain ⟨r, s, hr, hs⟩ := hf
  have key : ∀ (d r : Nat) (s : Slt), sl[r]? = some s → s.used = false → dist sl.length i r = d → ∃ (r : Nat) (s : Slt), sl[r]? = some s ∧ s.used = false ∧ ∀ x, x < sl.length → dist sl.length i x < dist sl.length i r → Used sl x := by
    intro d
    induction d using Nat.strongRecOn with
    | _ d ih =>
      intro r s hr hs hd
      by_cases hx : ∀ x, x < sl.length → dist sl.length i x < dist sl.length i r → Used sl x
      · exact ⟨r, s, hr, hs, hx⟩
      · have : ∃ x, x < sl.length ∧ dist sl.length i x < dist sl.length i r ∧ ¬ Used sl x := by
          apply Classical.byContradiction
          intro hn
          exact hx fun x h1 h2 => Classical.byContradiction fun h3 => hn ⟨x, h1, h2, h3⟩
        obtain ⟨x, h1, h2, h3⟩ := this
        have hxs : sl[x]? = some sl[x] := List.getElem?_eq_getElem h1
        refine ih _ (by omega) x _ hxs ?_ rfl
        cases hu : sl[x].used with
        | false => rfl
        | true => exact absurd ⟨_, hxs, hu⟩ h3
  exact key _ r s hr hs rfl
theorem at_free {sl : List Slt} (hg : Good sl) {ks : List Int} (hno : ∀ s, s ∈ sl → s.used = true → s.ks ≠ ks) :
    ∃ (r : Nat) (s : Slt), sl[r]? = some s ∧ s.used = false ∧ atGo sl ks (hashOf ks) sl.length (hashOf ks % sl.length).toNat = some r ∧ ∀ x, x < sl.length → dist sl.length (hashOf ks % sl.length).toNat x < dist sl.length (hashOf ks % sl.length).toNat r → Used sl x := by
  have hh : (hashOf ks % sl.length).toNat < sl.length := home_lt (s := ⟨false, hashOf ks, none, [], 0, 0⟩) hg.pos
  obtain ⟨r, s, hr, hs, hx⟩ := first_free hh hg.free
  refine ⟨r, s, hr, hs, ?_, hx⟩
  refine atGo_spec (lt_of hr) (by rw [getD_of hr]; simp [stopAt, hs]) _ _ hh (dist_lt hh (lt_of hr)) fun x hxl hlt => ?_
  obtain ⟨t, ht, htu⟩ := hx x hxl hlt
  rw [getD_of ht]
  simp only [stopAt, htu, Bool.not_true, Bool.false_or, Bool.and_eq_false_imp]
  intro _
  rw [decide_eq_false_iff_not]
  exact hno t (List.mem_of_getElem? ht) htu
end Go.Proofs.Ytkkcdfnlmhmheaa
/- The table's law: laying, growing. -/
namespace Go.Proofs.Ytkkcdfnlmhmheaa
open Go Go.Mv
set_option maxHeartbeats 1000000
set_option linter.unusedVariables false
set_option linter.unusedSimpArgs false
def Has (sl : List Slt) (ks : List Int) (v : Int) : Prop := ∃ s, s ∈ sl ∧ s.used = true ∧ s.ks = ks ∧ s.v = v
def cnt (sl : List Slt) : Nat := sl.countP (·.used)
theorem set_at {sl : List Slt} {r i : Nat} {s : Slt} (hr : r < sl.length) : (sl.set r s)[i]? = if r = i then some s else sl[i]? := by
  rw [List.getElem?_set]
  by_cases h : r = i
  · subst h; simp [hr]
  · simp [h]
theorem free_of_cnt {sl : List Slt} (h : cnt sl < sl.length) : ∃ (i : Nat) (s : Slt), sl[i]? = some s ∧ s.used = false := by
  apply Classical.byContradiction
  intro hn
  have : cnt sl = sl.length := by
    refine List.countP_eq_length.2 fun s hs => ?_
    obtain ⟨i, hi⟩ := List.mem_iff_getElem?.1 hs
    cases hu : s.used with
    | true => rfl
    | false => exact absurd ⟨i, s, hi, hu⟩ hn
  omega
theorem cnt_set {sl : List Slt} {r : Nat} {s t : Slt} (hr : sl[r]? = some s) : cnt (sl.set r t) = cnt sl - (if s.used then 1 else 0) + (if t.used then 1 else 0) := by
  have hl := lt_of hr
  have : sl[r] = s := by rw [List.getElem?_eq_getElem hl] at hr; exact Option.some.inj hr
  unfold cnt
  rw [List.countP_set hl, this]
theorem used_set {sl : List Slt} {r x : Nat} {s : Slt} (hr : r < sl.length) (hs : s.used = true) (h : Used sl x) : Used (sl.set r s) x := by
  obtain ⟨t, ht, htu⟩ := h
  by_cases hrx : r = x
  · subst hrx
    exact ⟨s, by rw [set_at hr]; simp, hs⟩
  · exact ⟨t, by rw [set_at hr, if_neg hrx]; exact ht, htu⟩
theorem mem_set_at {sl : List Slt} {r : Nat} {s t : Slt} (h : t ∈ sl.set r s) : t = s ∨ t ∈ sl := (List.mem_or_eq_of_mem_set h).symm.imp id id
/-- A value is laid anew. -/
theorem good_value {sl : List Slt} (hg : Good sl) {j : Nat} {s : Slt} (hj : sl[j]? = some s) (hu : s.used = true) (v : Int) : Good (sl.set j { s with v := v }) := by
  have hl := lt_of hj
  refine ⟨?_, ?_, ?_, ?_, ?_⟩
  · simpa using hg.pow
  · intro t ht htu
    rcases mem_set_at ht with rfl | ht
    · exact hg.hash s (List.mem_of_getElem? hj) hu
    · exact hg.hash t ht htu
  · intro a b x y ha hb hx hy hxy
    rw [set_at hl] at ha hb
    split at ha <;> split at hb
    · omega
    · cases ha
      rename_i h1 _
      rw [← h1]
      exact hg.one j b s y hj hb hu hy hxy
    · cases hb
      rename_i h1
      rw [← h1]
      exact hg.one a j x s ha hj hx hu hxy
    · exact hg.one a b x y ha hb hx hy hxy
  · intro a t ha htu x hx hlt
    simp only [List.length_set] at hx hlt
    rw [set_at hl] at ha
    refine used_set hl hu ?_
    split at ha
    · cases ha
      subst_vars
      exact hg.path _ s hj hu x hx hlt
    · exact hg.path a t ha htu x hx hlt
  · obtain ⟨i, t, hi, ht⟩ := hg.free
    refine ⟨i, t, ?_, ht⟩
    rw [set_at hl, if_neg]
    · exact hi
    · rintro rfl
      rw [hj] at hi
      cases hi
      rw [hu] at ht
      cases ht
theorem has_value {sl : List Slt} (hg : Good sl) {j : Nat} {s : Slt} (hj : sl[j]? = some s) (hu : s.used = true) (v : Int) (ks : List Int) (x : Int) :
    Has (sl.set j { s with v := v }) ks x ↔ (ks = s.ks ∧ x = v) ∨ (ks ≠ s.ks ∧ Has sl ks x) := by
  have hl := lt_of hj
  constructor
  · rintro ⟨t, ht, htu, rfl, rfl⟩
    obtain ⟨i, hi⟩ := List.mem_iff_getElem?.1 ht
    rw [set_at hl] at hi
    split at hi
    · cases hi
      exact .inl ⟨rfl, rfl⟩
    · rename_i hne
      refine .inr ⟨fun he => hne ?_, t, List.mem_of_getElem? hi, htu, rfl, rfl⟩
      exact (hg.one i j t s hi hj htu hu he).symm
  · rintro (⟨hk, hv⟩ | ⟨hne, t, ht, htu, rfl, rfl⟩)
    · exact ⟨{ s with v := v }, List.mem_of_getElem? (i := j) (by rw [set_at hl, if_pos rfl]), hu, hk.symm, hv.symm⟩
    · obtain ⟨i, hi⟩ := List.mem_iff_getElem?.1 ht
      refine ⟨t, List.mem_of_getElem? (i := i) ?_, htu, rfl, rfl⟩
      rw [set_at hl, if_neg]
      · exact hi
      · rintro rfl
        rw [hj] at hi
        cases hi
        exact hne rfl
/-- A key is laid at a free place. -/
theorem good_insert {sl : List Slt} (hg : Good sl) {r : Nat} {s t : Slt} (hr : sl[r]? = some s) (hs : s.used = false) (ht : t.used = true) (hth : t.h = hashOf t.ks) (hno : ∀ u, u ∈ sl → u.used = true → u.ks ≠ t.ks)
    (hx : ∀ x, x < sl.length → dist sl.length (hashOf t.ks % sl.length).toNat x < dist sl.length (hashOf t.ks % sl.length).toNat r → Used sl x) (hc : cnt sl + 1 < sl.length) : Good (sl.set r t) := by
  have hl := lt_of hr
  refine ⟨?_, ?_, ?_, ?_, ?_⟩
  · simpa using hg.pow
  · intro u hu huu
    rcases mem_set_at hu with rfl | hu
    · exact hth
    · exact hg.hash u hu huu
  · intro a b x y ha hb hx hy hxy
    rw [set_at hl] at ha hb
    split at ha <;> split at hb
    · omega
    · cases ha
      exact absurd hxy.symm (hno y (List.mem_of_getElem? hb) hy)
    · cases hb
      exact absurd hxy (hno x (List.mem_of_getElem? ha) hx)
    · exact hg.one a b x y ha hb hx hy hxy
  · intro a u ha huu x hxl hlt
    simp only [List.length_set] at hxl hlt
    rw [set_at hl] at ha
    refine used_set hl ht ?_
    split at ha
    · cases ha
      subst_vars
      refine hx x hxl ?_
      have : home sl.length t = (hashOf t.ks % sl.length).toNat := by unfold home; rw [hth]
      rw [← this]
      exact hlt
    · exact hg.path a u ha huu x hxl hlt
  · refine free_of_cnt ?_
    rw [cnt_set hr, hs, ht]
    simpa using hc
theorem has_insert {sl : List Slt} {r : Nat} {s t : Slt} (hr : sl[r]? = some s) (hs : s.used = false) (ht : t.used = true) (ks : List Int) (x : Int) :
    Has (sl.set r t) ks x ↔ (ks = t.ks ∧ x = t.v) ∨ Has sl ks x := by
  have hl := lt_of hr
  constructor
  · rintro ⟨u, hu, huu, rfl, rfl⟩
    rcases mem_set_at hu with rfl | hu
    · exact .inl ⟨rfl, rfl⟩
    · exact .inr ⟨u, hu, huu, rfl, rfl⟩
  · rintro (⟨rfl, rfl⟩ | ⟨u, hu, huu, rfl, rfl⟩)
    · exact ⟨t, List.mem_of_getElem? (i := r) (by rw [set_at hl, if_pos rfl]), ht, rfl, rfl⟩
    · obtain ⟨i, hi⟩ := List.mem_iff_getElem?.1 hu
      refine ⟨u, List.mem_of_getElem? (i := i) ?_, huu, rfl, rfl⟩
      rw [set_at hl, if_neg]
      · exact hi
      · rintro rfl
        rw [hr] at hi
        cases hi
        rw [hs] at huu
        cases huu
/-! ### growing -/
def reins (acc : List Slt) (s : Slt) : List Slt := match atGo acc s.ks s.h acc.length (s.h % acc.length).toNat with
  | some r => acc.set r s
  | none => acc
def growF (acc : List Slt) : List Slt → List Slt
  | [] => acc
  | s :: r => growF (if s.used then reins acc s else acc) r
theorem growF_snoc (acc : List Slt) (s : Slt) : ∀ (l : List Slt), growF acc (l ++ [s]) = if s.used then reins (growF acc l) s else growF acc l := by
  intro l
  induction l generalizing acc with
  | nil => rfl
  | cons t r ih => exact ih _
theorem good_zero {k : Nat} (hk : k < 40) : Good (List.replicate (2 ^ k) Slt.zero) := by
  have hz : ∀ s, s ∈ List.replicate (2 ^ k) Slt.zero → s.used = false := by
    intro s hs
    rw [List.mem_replicate] at hs
    rw [hs.2]
    rfl
  have hz' : ∀ (i : Nat) (s : Slt), (List.replicate (2 ^ k) Slt.zero)[i]? = some s → s.used = false := fun i s h => hz s (List.mem_of_getElem? h)
  refine ⟨⟨k, hk, by simp⟩, fun s hs hu => ?_, fun i j s t hi _ hu => ?_, fun i s hi hu => ?_, ?_⟩
  · rw [hz s hs] at hu; cases hu
  · rw [hz' i s hi] at hu; cases hu
  · rw [hz' i s hi] at hu; cases hu
  · refine ⟨0, Slt.zero, ?_, rfl⟩
    rw [List.getElem?_replicate, if_pos (Nat.two_pow_pos k)]
theorem cnt_zero {n : Nat} : cnt (List.replicate n Slt.zero) = 0 := by
  unfold cnt
  rw [List.countP_eq_zero]
  intro s hs
  rw [List.mem_replicate] at hs
  rw [hs.2]
  simp [Slt.zero]
theorem take_succ_at {sl : List Slt} {i : Nat} {s : Slt} (h : sl[i]? = some s) : sl.take (i + 1) = sl.take i ++ [s] := by
  rw [List.take_add_one, h]
  rfl
structure Grown (old : List Slt) (n i : Nat) (acc : List Slt) : Prop where
  good : Good acc
  len : acc.length = n
  has : ∀ ks v, Has acc ks v ↔ Has (old.take i) ks v
  cnt : cnt acc = cnt (old.take i)
  mem : ∀ s, s ∈ acc → s = Slt.zero ∨ s ∈ old
theorem cnt_take_le {sl : List Slt} {i : Nat} : cnt (sl.take i) ≤ cnt sl := (List.take_sublist i sl).countP_le
theorem grow_at {old acc : List Slt} {n i : Nat} {s : Slt} (ho : Good old) (h : Grown old n i acc) (hi : old[i]? = some s) (hu : s.used = true) :
    ∃ r t, acc[r]? = some t ∧ t.used = false ∧ atGo acc s.ks s.h acc.length (s.h % acc.length).toNat = some r ∧ ∀ x, x < acc.length → dist acc.length (hashOf s.ks % acc.length).toNat x < dist acc.length (hashOf s.ks % acc.length).toNat r → Used acc x := by
  have hh := ho.hash s (List.mem_of_getElem? hi) hu
  obtain ⟨r, t, h1, h2, h3, h4⟩ := at_free (ks := s.ks) h.good fun u hu' huu hks => by
    obtain ⟨w, hw, hwu, hwk, _⟩ := (h.has u.ks u.v).1 ⟨u, hu', huu, rfl, rfl⟩
    obtain ⟨j, hj⟩ := List.mem_iff_getElem?.1 hw
    rw [List.getElem?_take] at hj
    split at hj
    · have := ho.one j i w s hj hi hwu hu (hwk.trans hks)
      omega
    · cases hj
  exact ⟨r, t, h1, h2, by rw [hh]; exact h3, h4⟩
theorem grow_step {old acc : List Slt} {n i : Nat} {s : Slt} (ho : Good old) (hn : cnt old < n) (h : Grown old n i acc) (hi : old[i]? = some s) : Grown old n (i + 1) (if s.used then reins acc s else acc) := by
  have htk := take_succ_at hi
  have hcs : cnt (old.take (i + 1)) = cnt (old.take i) + if s.used then 1 else 0 := by
    rw [htk]
    unfold cnt
    rw [List.countP_append]
    simp [List.countP_cons]
  cases hu : s.used with
  | false =>
    rw [hu] at hcs
    refine ⟨h.good, h.len, fun ks v => ?_, ?_, h.mem⟩
    · rw [if_neg (by simp), h.has, htk]
      constructor
      · rintro ⟨t, ht, hr⟩
        exact ⟨t, List.mem_append_left _ ht, hr⟩
      · rintro ⟨t, ht, htu, hr⟩
        rcases List.mem_append.1 ht with ht | ht
        · exact ⟨t, ht, htu, hr⟩
        · rw [List.mem_singleton] at ht
          subst ht
          rw [hu] at htu
          cases htu
    · rw [if_neg (by simp), h.cnt, hcs]
      rfl
  | true =>
    rw [hu] at hcs
    obtain ⟨r, t, h1, h2, h3, h4⟩ := grow_at ho h hi hu
    have hre : reins acc s = acc.set r s := by unfold reins; rw [h3]
    rw [if_pos rfl, hre]
    have hh := ho.hash s (List.mem_of_getElem? hi) hu
    have hle : cnt (old.take (i + 1)) ≤ cnt old := cnt_take_le
    have hlen := h.len
    have hcn := h.cnt
    rw [if_pos rfl] at hcs
    refine ⟨?_, by simpa using hlen, fun ks v => ?_, ?_, fun u hu' => ?_⟩
    · refine good_insert h.good h1 h2 hu hh (fun u hu' huu hks => ?_) h4 ?_
      · obtain ⟨w, hw, hwu, hwk, _⟩ := (h.has u.ks u.v).1 ⟨u, hu', huu, rfl, rfl⟩
        obtain ⟨j, hj⟩ := List.mem_iff_getElem?.1 hw
        rw [List.getElem?_take] at hj
        split at hj
        · have := ho.one j i w s hj hi hwu hu (hwk.trans hks)
          omega
        · cases hj
      · rw [hcn, hlen]
        omega
    · rw [has_insert h1 h2 hu, h.has, htk]
      constructor
      · rintro (⟨rfl, rfl⟩ | ⟨t, ht, hr⟩)
        · exact ⟨s, List.mem_append_right _ (List.mem_singleton.2 rfl), hu, rfl, rfl⟩
        · exact ⟨t, List.mem_append_left _ ht, hr⟩
      · rintro ⟨t, ht, htu, rfl, rfl⟩
        rcases List.mem_append.1 ht with ht | ht
        · exact .inr ⟨t, ht, htu, rfl, rfl⟩
        · rw [List.mem_singleton] at ht
          subst ht
          exact .inl ⟨rfl, rfl⟩
    · rw [cnt_set h1, h2, hu, hcs, hcn]
      simp
    · rcases mem_set_at hu' with rfl | hu'
      · exact .inr (List.mem_of_getElem? hi)
      · exact h.mem u hu'
end Go.Proofs.Ytkkcdfnlmhmheaa
/- The table's law: dropping. -/
namespace Go.Proofs.Ytkkcdfnlmhmheaa
open Go Go.Mv
set_option maxHeartbeats 1000000
set_option linter.unusedVariables false
set_option linter.unusedSimpArgs false
def dropGo : Nat → List Slt → Nat → Nat → Option (List Slt × Nat)
  | 0, _, _, _ => none
  | f + 1, sl, hole, i =>
    if (sl.getD i .zero).used then
      if dist sl.length (home sl.length (sl.getD i .zero)) i ≥ dist sl.length hole i then dropGo f (sl.set hole (sl.getD i .zero)) i (nxt sl.length i)
      else dropGo f sl hole (nxt sl.length i)
    else some (sl, hole)
theorem dist_add {n a b c : Nat} (ha : a < n) (hb : b < n) (hc : c < n) (h : dist n a b + dist n b c < n) : dist n a c = dist n a b + dist n b c := by
  have := dist_cases n a b
  have := dist_cases n b c
  have := dist_cases n a c
  omega
theorem dist_thru {n a b c : Nat} (ha : a < n) (hb : b < n) (hc : c < n) (h : dist n a b < dist n a c) : dist n a c = dist n a b + dist n b c := by
  have := dist_cases n a b
  have := dist_cases n b c
  have := dist_cases n a c
  omega
theorem dist_ge {n a b c : Nat} (ha : a < n) (hb : b < n) (hc : c < n) (h : dist n b c ≤ dist n a c) : dist n a c = dist n a b + dist n b c := by
  have := dist_cases n a b
  have := dist_cases n b c
  have := dist_cases n a c
  omega
theorem dist_snxt {n a b : Nat} (ha : a < n) (hb : b < n) (h : nxt n b ≠ a) : dist n a (nxt n b) = dist n a b + 1 := by
  have := dist_cases n a (nxt n b)
  have := dist_cases n a b
  have := nxt_cases n b
  omega
theorem dist_inj {n a b c : Nat} (ha : a < n) (hb : b < n) (hc : c < n) (h : dist n a b = dist n a c) : b = c := by
  have := dist_cases n a b
  have := dist_cases n a c
  omega
structure DInv (sl0 : List Slt) (key : List Int) (sl : List Slt) (hole i : Nat) : Prop where
  len : sl.length = sl0.length
  hl : hole < sl0.length
  il : i < sl0.length
  ne : hole ≠ i
  flags : ∀ x, Used sl x ↔ Used sl0 x
  hash : ∀ s, s ∈ sl → s.used = true → s.h = hashOf s.ks
  one : ∀ (a b : Nat) (s t : Slt), a ≠ hole → b ≠ hole → sl[a]? = some s → sl[b]? = some t → s.used = true → t.used = true → s.ks = t.ks → a = b
  path : ∀ (x : Nat) (s : Slt), x ≠ hole → sl[x]? = some s → s.used = true → ∀ y, y < sl0.length → dist sl0.length (home sl0.length s) y < dist sl0.length (home sl0.length s) x → Used sl y
  done : ∀ (x : Nat) (s : Slt), x ≠ hole → sl[x]? = some s → s.used = true → dist sl0.length hole x < dist sl0.length hole i → dist sl0.length (home sl0.length s) x < dist sl0.length hole x
  run : ∀ x, x < sl0.length → dist sl0.length hole x < dist sl0.length hole i → Used sl x
  has : ∀ ks v, (∃ x s, x ≠ hole ∧ sl[x]? = some s ∧ s.used = true ∧ s.ks = ks ∧ s.v = v) ↔ (ks ≠ key ∧ Has sl0 ks v)
  mem : ∀ s, s ∈ sl → s ∈ sl0
theorem used_lt {sl : List Slt} {x : Nat} (h : Used sl x) : x < sl.length := by
  obtain ⟨s, h, _⟩ := h
  exact lt_of h
theorem DInv.start {sl : List Slt} (hg : Good sl) {j : Nat} {s : Slt} (hj : sl[j]? = some s) (hu : s.used = true) : DInv sl s.ks sl j (nxt sl.length j) := by
  have hl := lt_of hj
  have hne : j ≠ nxt sl.length j := by
    intro he
    obtain ⟨i, t, hi, ht⟩ := hg.free
    have := lt_of hi
    have : i = j := by unfold nxt at he; split at he <;> omega
    subst this
    rw [hj] at hi
    cases hi
    rw [hu] at ht
    cases ht
  have h1 : dist sl.length j (nxt sl.length j) = 1 := by rw [dist_snxt hl hl (Ne.symm hne), dist_self]
  have hz : ∀ x, x < sl.length → dist sl.length j x < dist sl.length j (nxt sl.length j) → j = x := fun x hx h => dist_zero hl hx (by omega)
  refine ⟨rfl, hl, nxt_lt hl, hne, fun _ => Iff.rfl, hg.hash, fun a b s t _ _ => hg.one a b s t, fun x s _ => hg.path x s, ?_, ?_, ?_, fun _ h => h⟩
  · intro x t hx ht _ hd
    exact absurd (hz x (lt_of ht) hd).symm hx
  · intro x hx hd
    rw [← hz x hx hd]
    exact ⟨s, hj, hu⟩
  · intro ks v
    constructor
    · rintro ⟨x, t, hx, ht, htu, rfl, rfl⟩
      exact ⟨fun he => hx (hg.one x j t s ht hj htu hu he), t, List.mem_of_getElem? ht, htu, rfl, rfl⟩
    · rintro ⟨hne, t, ht, htu, rfl, rfl⟩
      obtain ⟨x, hx⟩ := List.mem_iff_getElem?.1 ht
      refine ⟨x, t, ?_, hx, htu, rfl, rfl⟩
      rintro rfl
      rw [hj] at hx
      cases hx
      exact hne rfl
/-- Round about all is used: there is none that is free. -/
theorem DInv.turn {sl0 sl : List Slt} {key : List Int} {hole i : Nat} (h : DInv sl0 key sl hole i) (hf : ∃ (f : Nat) (s : Slt), sl0[f]? = some s ∧ s.used = false) (hi : Used sl i) : nxt sl0.length i ≠ hole := by
  intro he
  obtain ⟨f, s, hfs, hs⟩ := hf
  have hfl := lt_of hfs
  have hnf : ¬ Used sl f := by
    rw [h.flags]
    rintro ⟨t, ht, htu⟩
    rw [hfs] at ht
    cases ht
    rw [hs] at htu
    cases htu
  have hil := h.il
  have hhl := h.hl
  have h1 : dist sl0.length hole i = sl0.length - 1 := by rw [← he]; exact dist_nxt_self hil
  by_cases hfi : f = i
  · subst hfi; exact hnf hi
  · have h2 : dist sl0.length hole f ≠ dist sl0.length hole i := by
      intro e
      apply hfi
      exact dist_inj hhl hfl hil e
    have h3 := dist_lt hhl hfl
    exact hnf (h.run f hfl (by omega))
theorem DInv.stay {sl0 sl : List Slt} {key : List Int} {hole i : Nat} {s : Slt} (h : DInv sl0 key sl hole i) (hf : ∃ (f : Nat) (s : Slt), sl0[f]? = some s ∧ s.used = false) (hi : sl[i]? = some s) (hu : s.used = true)
    (hd : ¬ dist sl0.length (home sl0.length s) i ≥ dist sl0.length hole i) : DInv sl0 key sl hole (nxt sl0.length i) := by
  have hne := h.turn hf ⟨s, hi, hu⟩
  have h1 := dist_snxt h.hl h.il hne
  have hx : ∀ x, x < sl0.length → dist sl0.length hole x < dist sl0.length hole (nxt sl0.length i) → x = i ∨ dist sl0.length hole x < dist sl0.length hole i := by
    intro x hx hlt
    by_cases he : dist sl0.length hole x = dist sl0.length hole i
    · left
      exact dist_inj h.hl hx h.il he
    · right; omega
  refine ⟨h.len, h.hl, nxt_lt h.il, Ne.symm hne, h.flags, h.hash, h.one, h.path, ?_, ?_, h.has, h.mem⟩
  · intro x t hxh ht htu hlt
    rcases hx x (by rw [← h.len]; exact lt_of ht) hlt with rfl | hlt
    · rw [hi] at ht
      cases ht
      omega
    · exact h.done x t hxh ht htu hlt
  · intro x hxl hlt
    rcases hx x hxl hlt with rfl | hlt
    · exact ⟨s, hi, hu⟩
    · exact h.run x hxl hlt
theorem DInv.move {sl0 sl : List Slt} {key : List Int} {hole i : Nat} {s : Slt} (h : DInv sl0 key sl hole i) (hf : ∃ (f : Nat) (s : Slt), sl0[f]? = some s ∧ s.used = false) (hi : sl[i]? = some s) (hu : s.used = true)
    (hd : dist sl0.length (home sl0.length s) i ≥ dist sl0.length hole i) : DInv sl0 key (sl.set hole s) i (nxt sl0.length i) := by
  have hhl := h.hl
  have hil := h.il
  have hlen := h.len
  have hhl' : hole < sl.length := by omega
  have hne : i ≠ nxt sl0.length i := by
    intro he
    have := h.ne
    unfold nxt at he
    split at he <;> omega
  have h1 : dist sl0.length i (nxt sl0.length i) = 1 := by rw [dist_snxt hil hil (Ne.symm hne), dist_self]
  have hz : ∀ x, x < sl0.length → dist sl0.length i x < dist sl0.length i (nxt sl0.length i) → i = x := fun x hx h => dist_zero hil hx (by omega)
  have hhu : Used sl hole := h.run hole hhl (by
    rw [dist_self]
    have := h.ne
    rcases Nat.eq_zero_or_pos (dist sl0.length hole i) with h0 | h0
    · exact absurd (dist_zero hhl hil h0) this
    · exact h0)
  have hfl : ∀ x, Used (sl.set hole s) x ↔ Used sl x := by
    intro x
    constructor
    · rintro ⟨t, ht, htu⟩
      rw [set_at hhl'] at ht
      split at ht
      · subst_vars; exact hhu
      · exact ⟨t, ht, htu⟩
    · exact used_set hhl' hu
  have hsh : home sl0.length s < sl0.length := home_lt (by omega)
  refine ⟨by simpa using hlen, hil, nxt_lt hil, hne, fun x => (hfl x).trans (h.flags x), ?_, ?_, ?_, ?_, ?_, ?_, ?_⟩
  · intro t ht htu
    rcases mem_set_at ht with rfl | ht
    · exact h.hash t (List.mem_of_getElem? hi) htu
    · exact h.hash t ht htu
  · intro a b x y ha hb hx hy hxu hyu hxy
    rw [set_at hhl'] at hx hy
    split at hx <;> split at hy
    · omega
    · cases hx
      rename_i _ hne2
      exact absurd (h.one i b s y (Ne.symm h.ne) (Ne.symm hne2) hi hy hu hyu hxy).symm hb
    · cases hy
      rename_i hne2 _
      exact absurd (h.one a i x s (Ne.symm hne2) (Ne.symm h.ne) hx hi hxu hu hxy) ha
    · rename_i h2 h3
      exact h.one a b x y (Ne.symm h2) (Ne.symm h3) hx hy hxu hyu hxy
  · intro x t hxi ht htu y hy hlt
    rw [hfl]
    rw [set_at hhl'] at ht
    split at ht
    · cases ht
      subst_vars
      have hge := dist_ge hsh hhl hil hd
      exact h.path i s (Ne.symm h.ne) hi hu y hy (by omega)
    · rename_i h2
      exact h.path x t (Ne.symm h2) ht htu y hy hlt
  · intro x t hxi ht htu hlt
    have hxl : x < sl0.length := by have := lt_of ht; simp at this; omega
    exact absurd (hz x hxl hlt).symm hxi
  · intro x hxl hlt
    rw [hfl, ← hz x hxl hlt]
    exact ⟨s, hi, hu⟩
  · intro ks v
    rw [← h.has]
    constructor
    · rintro ⟨x, t, hx, ht, htu, rfl, rfl⟩
      rw [set_at hhl'] at ht
      split at ht
      · cases ht
        exact ⟨i, s, Ne.symm h.ne, hi, hu, rfl, rfl⟩
      · rename_i h2
        exact ⟨x, t, Ne.symm h2, ht, htu, rfl, rfl⟩
    · rintro ⟨x, t, hx, ht, htu, rfl, rfl⟩
      by_cases hxi : x = i
      · subst hxi
        rw [hi] at ht
        cases ht
        exact ⟨hole, s, h.ne, by rw [set_at hhl', if_pos rfl], hu, rfl, rfl⟩
      · exact ⟨x, t, hxi, by rw [set_at hhl', if_neg (Ne.symm hx)]; exact ht, htu, rfl, rfl⟩
  · intro t ht
    rcases mem_set_at ht with rfl | ht
    · exact h.mem t (List.mem_of_getElem? hi)
    · exact h.mem t ht
theorem DInv.used_i {sl0 sl : List Slt} {key : List Int} {hole i : Nat} (h : DInv sl0 key sl hole i) : sl[i]? = some (sl.getD i .zero) := by
  have : i < sl.length := by rw [h.len]; exact h.il
  simp [List.getD, this]
theorem dropGo_some {sl0 : List Slt} {key : List Int} {f : Nat} {u : Slt} (hfs : sl0[f]? = some u) (hfu : u.used = false) : ∀ (fuel : Nat) (sl : List Slt) (hole i : Nat), DInv sl0 key sl hole i → dist sl0.length i f < fuel →
    ∃ sl' hole' i', dropGo fuel sl hole i = some (sl', hole') ∧ DInv sl0 key sl' hole' i' ∧ ¬ Used sl' i'
  | 0, _, _, _, _, h => by omega
  | fuel + 1, sl, hole, i, h, hlt => by
    have hi := h.used_i
    rw [dropGo]
    cases hu : (sl.getD i .zero).used with
    | false =>
      rw [if_neg (by simp)]
      refine ⟨sl, hole, i, rfl, h, ?_⟩
      rintro ⟨t, ht, htu⟩
      rw [hi] at ht
      cases ht
      rw [hu] at htu
      cases htu
    | true =>
      have hif : i ≠ f := by
        rintro rfl
        obtain ⟨t, ht, htu⟩ := (h.flags i).1 ⟨_, hi, hu⟩
        rw [hfs] at ht
        cases ht
        rw [hfu] at htu
        cases htu
      have hd := dist_nxt h.il (lt_of hfs) hif
      rw [if_pos rfl]
      rw [h.len]
      split
      · rename_i hc
        exact dropGo_some hfs hfu fuel _ _ _ (h.move ⟨f, u, hfs, hfu⟩ hi hu hc) (by omega)
      · rename_i hc
        exact dropGo_some hfs hfu fuel _ _ _ (h.stay ⟨f, u, hfs, hfu⟩ hi hu hc) (by omega)
theorem good_drop {sl0 sl : List Slt} {key : List Int} {hole i : Nat} (hg : Good sl0) (h : DInv sl0 key sl hole i) (hi : ¬ Used sl i) : Good (sl.set hole .zero) ∧ ∀ ks v, Has (sl.set hole .zero) ks v ↔ ks ≠ key ∧ Has sl0 ks v := by
  have hhl := h.hl
  have hil := h.il
  have hlen := h.len
  have hhl' : hole < sl.length := by omega
  have zu : Slt.zero.used = false := rfl
  refine ⟨⟨by simpa [hlen] using hg.pow, ?_, ?_, ?_, ?_⟩, ?_⟩
  · intro t ht htu
    rcases mem_set_at ht with rfl | ht
    · rw [zu] at htu; cases htu
    · exact h.hash t ht htu
  · intro a b x y hx hy hxu hyu hxy
    rw [set_at hhl'] at hx hy
    split at hx
    · cases hx; rw [zu] at hxu; cases hxu
    · split at hy
      · cases hy; rw [zu] at hyu; cases hyu
      · rename_i h1 h2
        exact h.one a b x y (Ne.symm h1) (Ne.symm h2) hx hy hxu hyu hxy
  · intro x t hx htu y hy hlt
    simp only [List.length_set] at hy hlt
    rw [hlen] at hy hlt
    rw [set_at hhl'] at hx
    split at hx
    · cases hx; rw [zu] at htu; cases htu
    · rename_i hxh
      have hxl : x < sl0.length := by have := lt_of hx; omega
      have hth : home sl0.length t < sl0.length := home_lt (by omega)
      have hyu := h.path x t (Ne.symm hxh) hx htu y hy hlt
      have hyh : hole ≠ y := by
        rintro rfl
        have hthru := dist_thru hth hhl hxl hlt
        have hxi : dist sl0.length hole x < dist sl0.length hole i := by
          apply Classical.byContradiction
          intro hn
          have hxni : x ≠ i := by
            rintro rfl
            exact hi ⟨t, hx, htu⟩
          have h3 : dist sl0.length hole i ≠ dist sl0.length hole x := by
            intro e
            exact hxni (dist_inj hhl hil hxl e).symm
          have h4 : dist sl0.length (home sl0.length t) x < sl0.length := dist_lt hth hxl
          have h5 := dist_add hth hhl hil (by omega)
          exact hi (h.path x t (Ne.symm hxh) hx htu i hil (by omega))
        have := h.done x t (Ne.symm hxh) hx htu hxi
        omega
      obtain ⟨w, hw, hwu⟩ := hyu
      exact ⟨w, by rw [set_at hhl', if_neg hyh]; exact hw, hwu⟩
  · exact ⟨hole, .zero, by rw [set_at hhl', if_pos rfl], zu⟩
  · intro ks v
    rw [← h.has]
    constructor
    · rintro ⟨t, ht, htu, rfl, rfl⟩
      obtain ⟨x, hx⟩ := List.mem_iff_getElem?.1 ht
      rw [set_at hhl'] at hx
      split at hx
      · cases hx; rw [zu] at htu; cases htu
      · rename_i hxh
        exact ⟨x, t, Ne.symm hxh, hx, htu, rfl, rfl⟩
    · rintro ⟨x, t, hx, ht, htu, rfl, rfl⟩
      exact ⟨t, List.mem_of_getElem? (i := x) (by rw [set_at hhl', if_neg (Ne.symm hx)]; exact ht), htu, rfl, rfl⟩
end Go.Proofs.Ytkkcdfnlmhmheaa
/- The table: New, Len, Slots, find, Get. -/
namespace Go.Proofs.Ytkkcdfnlmhmheaa
open Go Go.Mv
set_option maxHeartbeats 1000000
set_option linter.unusedVariables false
set_option linter.unusedSimpArgs false
attribute [local irreducible] FCalls IntKind.wrap bits Mem.set Mem.setCell Mem.setCells
structure TabOk (t : Tab) : Prop where
  ok : t.sl = [] ∨ Good t.sl
  many : t.many = cnt t.sl
  half : 2 * cnt t.sl ≤ t.sl.length
  wid : ∀ s, s ∈ t.sl → s.used = true → (s.ks.length : Int) = t.w
  w0 : 0 ≤ t.w
  w1 : t.w ≤ 128
  most0 : 0 ≤ t.most
  most1 : t.most ≤ 1000000
  full : t.many ≤ t.most
theorem at_any {sl : List Slt} (hg : Good sl) (ks : List Int) : ∃ (r : Nat) (s : Slt), sl[r]? = some s ∧ atGo sl ks (hashOf ks) sl.length (hashOf ks % sl.length).toNat = some r ∧
    ((s.used = true ∧ s.ks = ks) ∨ (s.used = false ∧ (∀ u, u ∈ sl → u.used = true → u.ks ≠ ks) ∧ ∀ x, x < sl.length → dist sl.length (hashOf ks % sl.length).toNat x < dist sl.length (hashOf ks % sl.length).toNat r → Used sl x)) := by
  by_cases h : ∃ u, u ∈ sl ∧ u.used = true ∧ u.ks = ks
  · obtain ⟨u, hu, huu, rfl⟩ := h
    obtain ⟨j, hj⟩ := List.mem_iff_getElem?.1 hu
    exact ⟨j, u, hj, at_found hg hj huu, .inl ⟨huu, rfl⟩⟩
  · have hno : ∀ u, u ∈ sl → u.used = true → u.ks ≠ ks := fun u h1 h2 h3 => h ⟨u, h1, h2, h3⟩
    obtain ⟨r, s, h1, h2, h3, h4⟩ := at_free hg hno
    exact ⟨r, s, h1, h3, .inr ⟨h2, hno, h4⟩⟩
theorem find_c {m : Mem} {p : Nat} {t : Tab} {A : Option Addr} {ks : List Int} {c : Nat} (ht : TabAt m p t) (ho : TabOk t) (hA : Ints m A ks) :
    FCalls Try.prog 53 [.pointer (some ⟨p, 0, none⟩), .slice A ks.length c] m fun v m' => ∃ (i : Nat) (b : Bool), v = .tuple #[.int .i64 i, .bool b] ∧ m' = m ∧
      ((b = true ∧ ∃ s, t.sl[i]? = some s ∧ s.used = true ∧ s.ks = ks) ∨ (b = false ∧ ∀ v, ¬ Has t.sl ks v)) := by
  refine fcalls_of_vc (T := tbl) (B := bodies) (pr := []) (DR := dr53) (args := [.v (.pointer (some ⟨p, 0, none⟩)), .v (.slice A ks.length c)]) tbl_ok bodies_ok mixed Try.func53 rfl (by decide +kernel) (by simp [Try.f53]) rfl ?_
  (conv => whnf)
  refine ⟨_, ht.head.cell (i := 0) rfl, ?_⟩
  (conv => whnf)
  refine brk_intro (fun h => ?_) (fun h => ?_)
  · have hw : (ks.length : Int) = t.w := by simpa using h
    have hks : ks.length < 2 ^ 62 := by have := ho.w1; omega
    (conv => whnf)
    refine ⟨_, _, _, ht.head.cell (i := 2) rfl, ?_⟩
    (conv => whnf)
    refine brk_intro (fun h1 => ?_) (fun h1 => ?_)
    · have h1 : t.sl = [] := by
        have : (t.sl.length : Int) = 0 := by simpa [hw] using h1
        exact List.length_eq_zero_iff.1 (by omega)
      (conv => whnf)
      refine ⟨0, false, rfl, rfl, .inr ⟨rfl, ?_⟩⟩
      rintro v ⟨s, hs, _⟩
      rw [h1] at hs
      cases hs
    · have h1 : t.sl ≠ [] := by
        rintro h2
        simp [h2] at h1
      have hg := ho.ok.resolve_left h1
      obtain ⟨k, hk, hn⟩ := hg.pow
      obtain ⟨r, s, hr, hat, hor⟩ := at_any hg ks
      obtain ⟨hq, hpq⟩ := ht.places h1
      have hsA : t.sA = some ⟨t.q, 0, none⟩ := if_neg h1
      have hhead := ht.head
      rw [hsA] at hhead
      have hrl := lt_of hr
      (conv => whnf)
      refine FCalls.mono (hash_c hA hks) ?_
      rintro v m' ⟨rfl, rfl⟩
      (conv => whnf)
      refine FCalls.mono (at_c ht hA hks hn hk hat) ?_
      rintro v m' ⟨rfl, rfl⟩
      (conv => whnf)
      refine ⟨_, _, _, hhead.cell (i := 2) rfl, ?_⟩
      (conv => whnf)
      refine ⟨_, rfl, by omega, by omega, ?_⟩
      (conv => whnf)
      refine ⟨_, slot_cell hq (i := (r : Int).toNat) hr (f := 0) (by decide) rfl rfl, ?_⟩
      (conv => whnf)
      refine ⟨r, s.used, rfl, rfl, ?_⟩
      rcases hor with ⟨hu, hk⟩ | ⟨hu, hno, _⟩
      · exact .inl ⟨hu, s, hr, hu, hk⟩
      · refine .inr ⟨hu, ?_⟩
        rintro v ⟨u, h2, h3, h4, _⟩
        exact hno u h2 h3 h4
  · have hw : (ks.length : Int) ≠ t.w := by simpa using h
    (conv => whnf)
    refine ⟨0, false, rfl, rfl, .inr ⟨rfl, ?_⟩⟩
    rintro v ⟨s, hs, hu, rfl, _⟩
    exact hw (ho.wid s hs hu)
theorem get_c {m : Mem} {p : Nat} {t : Tab} {A : Option Addr} {ks : List Int} {c : Nat} (ht : TabAt m p t) (ho : TabOk t) (hA : Ints m A ks) :
    FCalls Try.prog 47 [.pointer (some ⟨p, 0, none⟩), .slice A ks.length c] m fun v m' => ∃ (x : Int) (b : Bool), v = .tuple #[.int .i64 x, .bool b] ∧ m' = m ∧
      ((b = true ∧ Has t.sl ks x) ∨ (b = false ∧ x = 0 ∧ ∀ v, ¬ Has t.sl ks v)) := by
  refine fcalls_of_vc (T := tbl) (B := bodies) (pr := []) (DR := dr47) (args := [.v (.pointer (some ⟨p, 0, none⟩)), .v (.slice A ks.length c)]) tbl_ok bodies_ok mixed Try.func47 rfl (by decide +kernel) (by simp [Try.f47]) rfl ?_
  (conv => whnf)
  refine FCalls.mono (find_c ht ho hA) ?_
  rintro v m' ⟨i, b, rfl, rfl, hor⟩
  (conv => whnf)
  refine brk_intro (fun h => ?_) (fun h => ?_)
  · have hb : b = false := by simpa using h
    rcases hor with ⟨hb', _⟩ | ⟨_, hno⟩
    · rw [hb] at hb'; cases hb'
    · (conv => whnf)
      exact ⟨0, false, rfl, rfl, .inr ⟨rfl, rfl, hno⟩⟩
  · have hb : b = true := by simpa using h
    rcases hor with ⟨_, s, hs, hu, hk⟩ | ⟨hb', _⟩
    · have hne : t.sl ≠ [] := by rintro h1; rw [h1] at hs; cases hs
      obtain ⟨hq, hpq⟩ := ht.places hne
      have hsA : t.sA = some ⟨t.q, 0, none⟩ := if_neg hne
      have hhead := ht.head
      rw [hsA] at hhead
      have hil := lt_of hs
      (conv => whnf)
      refine ⟨_, _, _, hhead.cell (i := 2) rfl, ?_⟩
      (conv => whnf)
      refine ⟨_, rfl, by omega, by omega, ?_⟩
      (conv => whnf)
      refine ⟨_, slot_cell hq (i := (i : Int).toNat) hs (f := 3) (by decide) rfl rfl, ?_⟩
      (conv => whnf)
      exact ⟨s.v, true, rfl, rfl, .inl ⟨rfl, s, List.mem_of_getElem? hs, hu, hk, rfl⟩⟩
    · rw [hb] at hb'; cases hb'
theorem new_c {m : Mem} {w most : Int} {g : Nat → Prop} (hg : ∀ b, g b → m b ≠ none) (hw : 0 ≤ w) (hw1 : w ≤ 128) (hm : 0 ≤ most) (hm1 : most ≤ 1000000) :
    FCalls Try.prog 26 [.int .i64 w, .int .i64 most] m fun v m' => ∃ p, v = .tuple #[.pointer (some ⟨p, 0, none⟩), .int .i64 0] ∧ m p = none ∧ TabAt m' p ⟨w, most, [], p, 0, g⟩ ∧ Keep [] m m' := by
  refine fcalls_of_vc (T := tbl) (B := bodies) (pr := []) (DR := dr26) (args := [.v (.int .i64 w), .v (.int .i64 most)]) tbl_ok bodies_ok mixed Try.func26 rfl (by decide +kernel) (by simp [Try.f26]) rfl ?_
  (conv => whnf)
  refine brk_true (by simp; omega) ?_
  (conv => whnf)
  refine brk_true (by simp; omega) ?_
  (conv => whnf)
  refine brk_true (by simp; omega) ?_
  (conv => whnf)
  refine brk_false (by simp; omega) ?_
  (conv => whnf)
  intro b hb
  (conv => whnf)
  refine ⟨b, rfl, hb, ⟨Blk.new, fun h => absurd rfl h, fun s hs => (by cases hs), by simp, fun x hx => ⟨dom_set (hg x hx), by rintro rfl; exact hg _ hx hb, fun h => absurd rfl h⟩⟩, Keep.set hb⟩
end Go.Proofs.Ytkkcdfnlmhmheaa
/- The table: grow. -/
namespace Go.Proofs.Ytkkcdfnlmhmheaa
open Go Go.Mv
set_option maxHeartbeats 1000000
set_option linter.unusedVariables false
set_option linter.unusedSimpArgs false
attribute [local irreducible] FCalls IntKind.wrap bits Mem.set Mem.setCell Mem.setCells
theorem writeAt_append (a : List Value) : ∀ (vs X : List Value) (j : Nat), writeAt (a ++ X) (a.length + j) vs = a ++ writeAt X j vs
  | [], _, _ => rfl
  | v :: r, X, j => by
    simp only [writeAt]
    rw [List.set_append_right _ _ (by omega), show a.length + j - a.length = j by omega, show a.length + j + 1 = a.length + (j + 1) by omega]
    exact writeAt_append a r _ _
theorem writeAt_full : ∀ (vs l : List Value), l.length = vs.length → writeAt l 0 vs = vs
  | [], [], _ => rfl
  | [], _ :: _, h => by simp at h
  | v :: r, [], h => by simp at h
  | v :: r, x :: l, h => by
    show writeAt ([v] ++ l) ([v].length + 0) r = v :: r
    rw [writeAt_append, writeAt_full r l (by simpa using h)]
    rfl
theorem oneCells_ints (k : IntKind) : ∀ (xs : List Int), oneCells (intCells k xs) = true
  | [] => rfl
  | x :: r => by
    show (Value.oneCell' (.int k x) && oneCells (intCells k r)) = true
    rw [oneCells_ints k r]
    rfl
theorem ints_length (k : IntKind) (xs : List Int) : (intCells k xs).length = xs.length := by simp [intCells]
theorem ints_at {k : IntKind} {xs : List Int} {i : Nat} {x : Int} (h : xs[i]? = some x) : (intCells k xs)[i]? = some (.int k x) := by simp [intCells, h]
theorem Ints.holds {m : Mem} {A : Option Addr} {xs : List Int} (h : Ints m A xs) : xs = [] ∨ ∃ q, A = some q ∧ m.holds q (intCells .i64 xs) := by
  rcases h with rfl | ⟨b, i, rfl, h⟩
  · exact .inl rfl
  · refine .inr ⟨_, rfl, fun j v hj => ?_⟩
    rw [add_mk]
    simp only [intCells, List.getElem?_map, Option.map_eq_some_iff] at hj
    obtain ⟨x, hx, rfl⟩ := hj
    exact h j x hx
theorem Blk.ints_ {m : Mem} {b : Nat} {xs : List Int} (h : Blk m b (intCells .i64 xs)) : Ints m (some ⟨b, 0, none⟩) xs :=
  .inr ⟨b, 0, rfl, fun k x hk => by rw [Nat.zero_add]; exact h.cell (ints_at hk)⟩
theorem zeros_ints {n : Nat} : (zerosOf tbl 3 n).list = intCells .i64 (List.replicate n 0) := rfl
theorem copy_own {m : Mem} {b : Nat} {xs : List Int} : Ints ((m.set b (.cells (zerosOf tbl 3 xs.length).list.toArray 3 (0, 0))).setCells ⟨b, 0, none⟩ 0 (intCells .i64 xs)) (some ⟨b, 0, none⟩) xs := by
  have h := Blk.puts (i := 0) (intCells .i64 xs) (j := 0) (Blk.new (m := m) (b := b) (e := 3) (l := (zerosOf tbl 3 xs.length).list))
  rw [Nat.zero_add, writeAt_full _ _ (by rw [zeros_ints, ints_length, ints_length]; simp)] at h
  exact Blk.ints_ h
theorem cellsOf_set {s : Slt} : ∀ {l : List Slt} {i : Nat}, i < l.length → cellsOf (l.set i s) = writeAt (cellsOf l) (i * 4) s.cells
  | [], _, h => by simp at h
  | t :: r, 0, _ => rfl
  | t :: r, i + 1, h => by
    show t.cells ++ cellsOf (r.set i s) = writeAt (t.cells ++ cellsOf r) ((i + 1) * 4) s.cells
    rw [cellsOf_set (l := r) (by simpa using h), show (i + 1) * 4 = t.cells.length + i * 4 by simp [Slt.cells]; omega, writeAt_append]
theorem cellsOf_zero {n : Nat} : (zerosOf tbl 106 n).list = cellsOf (List.replicate n Slt.zero) := by
  show ((List.range n).flatMap fun _ => [Value.bool false, .int .u64 0, .slice none 0 0, .int .i64 0]) = _
  induction n with
  | zero => rfl
  | succ n ih =>
    rw [List.range_succ, List.flatMap_append, ih, List.replicate_succ']
    unfold cellsOf
    rw [List.flatMap_append]
    rfl
theorem Keep.cells_new {bad : List Nat} {m M : Mem} {b i j : Nat} {vs : List Value} (h : Keep bad m M) (hb : m b = none) : Keep bad m (M.setCells ⟨b, i, none⟩ j vs) := fun c o h1 h2 => by
  rw [Mem.setCells_ne]
  · exact h c o h1 h2
  · rintro rfl
    rw [h1] at hb
    cases hb
theorem slot_room {m : Mem} {q i z n : Nat} {l : List Slt} (h : Blk m q (cellsOf l)) (hi : i < l.length) (hz : z = 4) (hn : n = 4) : m.room ((⟨q, 0, none⟩ : Addr).add (i * z)) n := by
  rw [hz, hn, add_mk, Nat.zero_add]
  exact h.room (by rw [cellsOf_length]; omega)
theorem slot_put {m : Mem} {q i z : Nat} {l : List Slt} {s : Slt} {vs : List Value} (h : Blk m q (cellsOf l)) (hi : i < l.length) (hz : z = 4) (hv : vs = s.cells) : Blk (m.setCells ((⟨q, 0, none⟩ : Addr).add (i * z)) 0 vs) q (cellsOf (l.set i s)) := by
  rw [hz, hv, add_mk, Nat.zero_add, cellsOf_set hi]
  exact h.puts _
theorem Keep.cells_add {bad : List Nat} {m : Mem} {b i j : Nat} {vs : List Value} (hb : b ∈ bad) : Keep bad m (m.setCells ((⟨b, 0, none⟩ : Addr).add i) j vs) := by
  rw [add_mk]
  exact Keep.cells hb
theorem Keep.cells_new_add {bad : List Nat} {m M : Mem} {b i j : Nat} {vs : List Value} (h : Keep bad m M) (hb : m b = none) : Keep bad m (M.setCells ((⟨b, 0, none⟩ : Addr).add i) j vs) := by
  rw [add_mk]
  exact h.cells_new hb
theorem TabAt.mono {m m' : Mem} {p : Nat} {t : Tab} (ht : TabAt m p t) (hk : Keep [] m m') : TabAt m' p t :=
  ⟨hk.blk ht.head (by simp), fun h => ⟨hk.blk (ht.places h).1 (by simp), (ht.places h).2⟩, fun s hs => ⟨(ht.keys s hs).1.keep hk (by simp), (ht.keys s hs).2⟩, ht.size, fun b hb => ⟨dom_keep hk (ht.far b hb).1 (by simp), (ht.far b hb).2⟩⟩
theorem grow_c {m : Mem} {p : Nat} {t : Tab} (ht : TabAt m p t) (ho : TabOk t) (hm : t.many < t.most) :
    FCalls Try.prog 62 [.pointer (some ⟨p, 0, none⟩)] m fun v m' => ∃ t', v = .tuple #[] ∧ TabAt m' p t' ∧ TabOk t' ∧ t'.w = t.w ∧ (t'.most = t.most ∧ t'.g = t.g) ∧ t'.many = t.many ∧ (∀ ks v, Has t'.sl ks v ↔ Has t.sl ks v) ∧
      2 * (cnt t.sl + 1) ≤ t'.sl.length ∧ (t'.sl.length = t.sl.length ∨ (2 * (cnt t.sl + 1) > t.sl.length ∧ t'.sl.length = max 8 (2 * t.sl.length))) ∧ Keep [p] m m' ∧ (t'.q = t.q ∨ m t'.q = none) := by
  have hhead := ht.head
  have hmany := ho.many
  have hmost := ho.most1
  have hhalf := ho.half
  have hc0 : cnt t.sl < 1000000 := by omega
  have hw1 : IntKind.i64.wrap (t.many + 1) = t.many + 1 := wrap_id (by omega) (by omega)
  have hw2 : IntKind.i64.wrap (2 * (t.many + 1)) = 2 * (t.many + 1) := wrap_id (by omega) (by omega)
  refine fcalls_of_vc (T := tbl) (B := bodies) (pr := [4]) (DR := dr62) (args := [.v (.pointer (some ⟨p, 0, none⟩))]) tbl_ok bodies_ok mixed Try.func62 rfl (by decide +kernel) (by simp [Try.f62]) rfl ?_
  (conv => whnf)
  refine ⟨_, hhead.cell (i := 3) rfl, ?_⟩
  (conv => whnf)
  refine ⟨_, _, _, hhead.cell (i := 2) rfl, ?_⟩
  (conv => whnf)
  rw [hw1, hw2]
  refine brk_intro (fun h => ?_) (fun h => ?_)
  · have h : 2 * (t.many + 1) ≤ t.sl.length := by simpa using h
    (conv => whnf)
    exact ⟨t, rfl, ht, ho, rfl, ⟨rfl, rfl⟩, rfl, fun _ _ => Iff.rfl, by omega, .inl rfl, Keep.refl, .inl rfl⟩
  · have h : ¬ 2 * (t.many + 1) ≤ t.sl.length := by simpa using h
    (conv => whnf)
    refine ⟨_, _, _, hhead.cell (i := 2) rfl, ?_⟩
    (conv => whnf)
    have hlen : t.sl.length < 2000002 := by omega
    have hw3 : IntKind.i64.wrap (2 * (t.sl.length : Int)) = 2 * t.sl.length := wrap_id (by omega) (by omega)
    rw [hw3]
    obtain ⟨N, hN⟩ : ∃ N : Nat, N = max 8 (2 * t.sl.length) := ⟨_, rfl⟩
    have hN' : (if 2 * (t.sl.length : Int) > 8 then 2 * (t.sl.length : Int) else 8) = (N : Int) := by
      rw [hN]; split <;> omega
    rw [hN']
    obtain ⟨k', hk', hNk⟩ : ∃ k', k' < 40 ∧ N = 2 ^ k' := by
      rcases ho.ok with h1 | h1
      · exact ⟨3, by omega, by rw [hN, h1]; rfl⟩
      · obtain ⟨k, hk, hn⟩ := h1.pow
        have hk2 : k < 22 := by
          apply Classical.byContradiction
          intro hc
          have := Nat.pow_le_pow_right (show 0 < 2 by omega) (show 22 ≤ k by omega)
          omega
        by_cases hk3 : k < 3
        · refine ⟨3, by omega, ?_⟩
          have : k = 0 ∨ k = 1 ∨ k = 2 := by omega
          rcases this with rfl | rfl | rfl <;> (rw [hN, hn]; decide)
        · refine ⟨k + 1, by omega, ?_⟩
          have := Nat.pow_le_pow_right (show 0 < 2 by omega) (show 3 ≤ k by omega)
          rw [hN, hn, Nat.pow_succ]
          omega
    refine ⟨by omega, by omega, by omega, ?_, ?_⟩
    · have : ((tbl.at 106).bytes : Int) = 48 := rfl
      rw [this]
      omega
    intro q' hq'
    have hpq : p ≠ q' := hhead.ne hq'
    (conv => whnf)
    refine ⟨⟨⟨_, (hhead.set hq').cell (i := 2) rfl⟩, (hhead.set hq').fz⟩, ?_⟩
    (conv => whnf)
    have hN0 : 0 < N := by omega
    have hsA : ∀ acc : List Slt, acc.length = N → Tab.sA ⟨t.w, t.most, acc, q', t.many, t.g⟩ = some ⟨q', 0, none⟩ := fun acc ha => if_neg (by rintro h1; dsimp only at h1; rw [h1] at ha; simp at ha; omega)
    have hNl : N < 2 ^ 40 := by omega
    refine loop_keep [0, 29, 30] (Int × List Slt × Mem) (fun s => [(31, .v (.int .i64 s.1))]) (fun _ => []) (fun s => s.2.2)
      (fun s => 0 ≤ s.1 ∧ s.1 ≤ t.sl.length ∧ Grown t.sl N s.1.toNat s.2.1 ∧ TabAt s.2.2 p ⟨t.w, t.most, s.2.1, q', t.many, t.g⟩ ∧ Keep [p] m s.2.2) (fun s => t.sl.length - s.1.toNat) (0, List.replicate N .zero, _) ⟨rfl, trivial⟩ rfl rfl ?_ ?_
    · refine ⟨by simp, by simp, ⟨by rw [hNk]; exact good_zero hk', by simp, ?_, ?_, ?_⟩, ⟨?_, fun _ => ⟨?_, hpq⟩, ?_, by simpa using hNl, fun x hx => ⟨dom_setCell (dom_set (ht.far x hx).1), (ht.far x hx).2.1, fun _ => by rintro rfl; exact (ht.far _ hx).1 hq'⟩⟩, ?_⟩
      · intro ks v
        constructor
        · rintro ⟨s, hs, hu, _⟩
          rw [List.mem_replicate] at hs
          rw [hs.2] at hu
          cases hu
        · rintro ⟨s, hs, _⟩
          simp at hs
      · rw [cnt_zero]; rfl
      · intro s hs
        rw [List.mem_replicate] at hs
        exact .inl hs.2
      · have := Blk.put (i := 2) (.slice (some ⟨q', 0, none⟩) (N : Int).toNat (N : Int).toNat) (hhead.set hq' (o := .cells (zerosOf tbl 106 (N : Int).toNat).list.toArray 106 (0, 0)))
        rw [hsA _ (by simp)]
        simpa [add_mk] using this
      · refine Blk.setCell_ne ?_ (Ne.symm hpq)
        rw [← cellsOf_zero]
        exact Blk.new
      · intro s hs
        rw [List.mem_replicate] at hs
        rw [hs.2]
        exact ⟨.inl rfl, .inl rfl, .inl rfl, by simp [Slt.zero], fun _ _ => .inl rfl⟩
      · exact (Keep.set hq').trans (Keep.cell (by simp))
    (conv => whnf)
    refine ⟨rfl, fun s hJ => ?_⟩
    obtain ⟨i, acc, M⟩ := s
    obtain ⟨hJ1, hJ2, hG, hT, hK⟩ := hJ
    dsimp only at hJ1 hJ2 hG hT hK
    (conv => whnf)
    refine brk_intro (fun h1 => ?_) (fun h1 => ?_)
    · have h1 : i < t.sl.length := by simpa using h1
      have hne : t.sl ≠ [] := by rintro e; rw [e] at h1; simp at h1; omega
      have hg := ho.ok.resolve_left hne
      obtain ⟨hq, hpq0⟩ := ht.places hne
      have hsA0 : t.sA = some ⟨t.q, 0, none⟩ := if_neg hne
      have hqM := hK.blk hq (by simp; exact Ne.symm hpq0)
      obtain ⟨s, hs⟩ : ∃ s, t.sl[i.toNat]? = some s := ⟨t.sl[i.toNat]'(by omega), List.getElem?_eq_getElem (by omega)⟩
      have hst := grow_step hg (by omega) hG hs
      (conv => whnf)
      refine ⟨_, hsA0, hJ1, h1, ?_⟩
      (conv => whnf)
      refine ⟨_, slot_cell hqM hs (f := 0) (by decide) rfl rfl, ?_⟩
      (conv => whnf)
      refine ⟨_, slot_cell hqM hs (f := 1) (by decide) rfl rfl, ?_⟩
      (conv => whnf)
      refine ⟨_, _, _, slot_cell hqM hs (f := 2) (by decide) rfl rfl, ?_⟩
      (conv => whnf)
      refine ⟨_, slot_cell hqM hs (f := 3) (by decide) rfl rfl, ?_⟩
      (conv => whnf)
      have hi1 : IntKind.i64.wrap (i + 1) = i + 1 := wrap_id (by omega) (by omega)
      have hi2 : (i + 1).toNat = i.toNat + 1 := by omega
      refine brk_intro (fun h2 => ?_) (fun h2 => ?_)
      · obtain ⟨r, u, hr, hu, hat, _⟩ := grow_at hg hG hs h2
        have hre : reins acc s = acc.set r s := by unfold reins; rw [hat]
        rw [if_pos h2, hre] at hst
        have hTh := hT.head
        rw [hsA acc hG.len] at hTh
        have hane : acc ≠ [] := by rintro e; have := hG.len; rw [e] at this; simp at this; omega
        have hqa := (hT.places hane).1
        have hrl := lt_of hr
        have hsk := ht.keys s (List.mem_of_getElem? hs)
        have hsI : Ints M s.kA s.ks := hsk.1.keep hK (by simpa using hsk.2.1)
        (conv => whnf)
        refine ⟨_, _, _, hTh.cell (i := 2) rfl, ?_⟩
        (conv => whnf)
        refine ⟨_, at_c hT hsI hsk.2.2.2.1 (hG.len.trans hNk) hk' hat, ?_⟩
        (conv => whnf)
        refine ⟨_, rfl, by omega, by dsimp only; omega, ?_⟩
        (conv => whnf)
        refine ⟨slot_room hqa hrl rfl rfl, ?_⟩
        (conv => whnf)
        refine ⟨(_, acc.set r s, _), le_of_more ⟨rfl, rfl, rfl, rfl, trivial⟩ rfl (fun _ _ h => h), ?_⟩
        dsimp only
        rw [hi1, hi2]
        refine ⟨⟨by omega, by omega, hst, ?_, ?_⟩, by omega⟩
        · refine ⟨?_, fun _ => ⟨slot_put hqa hrl rfl rfl, hpq⟩, ?_, by simpa [hG.len] using hNl, fun x hx => ⟨dom_setCells _ (hT.far x hx).1, (hT.far x hx).2.1, fun _ => (hT.far x hx).2.2 hane⟩⟩
          · rw [hsA _ (by simpa using hG.len)]
            have := hTh.setCells_ne (c := q') (i := 0 + (r : Int).toNat * 4) (j := 0) (vs := s.cells) hpq
            rw [List.length_set]
            rw [add_mk]
            exact this
          · intro v hv
            rcases mem_set_at hv with rfl | hv
            · refine ⟨?_, hsk.2.1, hsk.1.off_new hq', hsk.2.2.2⟩
              refine hsI.keep (bad := [q']) (Keep.cells_add (by simp)) (by simpa using hsk.1.off_new hq')
            · have := hT.keys v hv
              exact ⟨this.1.keep (bad := [q']) (Keep.cells_add (by simp)) (by simpa using this.2.2.1), this.2⟩
        · exact hK.cells_new_add hq'
      · rw [h2, if_neg (by simp)] at hst
        (conv => whnf)
        refine ⟨(_, acc, _), le_of_more ⟨rfl, rfl, rfl, rfl, trivial⟩ rfl (fun _ _ h => h), ?_⟩
        dsimp only
        rw [hi1, hi2]
        exact ⟨⟨by omega, by omega, hst, hT, hK⟩, by omega⟩
    · have h1 : ¬ i < t.sl.length := by simpa using h1
      have hi : i.toNat = t.sl.length := by omega
      rw [hi] at hG
      have htk : t.sl.take t.sl.length = t.sl := List.take_length
      (conv => whnf)
      refine ⟨⟨t.w, t.most, acc, q', t.many, t.g⟩, rfl, hT, ⟨.inr hG.good, ?_, ?_, ?_, ho.w0, ho.w1, ho.most0, ho.most1, ho.full⟩, rfl, ⟨rfl, rfl⟩, rfl, ?_, ?_, .inr ⟨by omega, hG.len.trans hN⟩, hK, .inr hq'⟩
      · rw [hmany, hG.cnt, htk]
      · rw [hG.cnt, htk, hG.len]
        omega
      · intro s hs hu
        rcases hG.mem s hs with rfl | hs
        · cases hu
        · exact ho.wid s hs hu
      · intro ks v
        rw [hG.has, htk]
      · rw [hG.len]
        omega
end Go.Proofs.Ytkkcdfnlmhmheaa
/- The table: Put. -/
namespace Go.Proofs.Ytkkcdfnlmhmheaa
open Go Go.Mv
set_option maxHeartbeats 1000000
set_option linter.unusedVariables false
set_option linter.unusedSimpArgs false
attribute [local irreducible] FCalls IntKind.wrap bits Mem.set Mem.setCell Mem.setCells
def Upd (sl sl' : List Slt) (ks : List Int) (v : Int) : Prop := ∀ k x, Has sl' k x ↔ (k = ks ∧ x = v) ∨ (k ≠ ks ∧ Has sl k x)
def PutR (t : Tab) (ks : List Int) (v : Int) (code : Int) (t' : Tab) : Prop :=
  ((ks.length : Int) ≠ t.w ∧ code = 11 ∧ t' = t) ∨
  ((ks.length : Int) = t.w ∧ (∃ v0, Has t.sl ks v0) ∧ code = 0 ∧ t'.many = t.many ∧ t'.sl.length = t.sl.length ∧ Upd t.sl t'.sl ks v) ∨
  ((ks.length : Int) = t.w ∧ (∀ v0, ¬ Has t.sl ks v0) ∧ t.most ≤ t.many ∧ code = 10 ∧ t' = t) ∨
  ((ks.length : Int) = t.w ∧ (∀ v0, ¬ Has t.sl ks v0) ∧ t.many < t.most ∧ code = 0 ∧ t'.many = t.many + 1 ∧ Upd t.sl t'.sl ks v ∧
    (t'.sl.length = t.sl.length ∨ (2 * (cnt t.sl + 1) > t.sl.length ∧ t'.sl.length = max 8 (2 * t.sl.length))))
theorem cellsOf_put (v : Int) : ∀ {l : List Slt} {i : Nat} {s : Slt}, l[i]? = some s → cellsOf (l.set i { s with v := v }) = (cellsOf l).set (i * 4 + 3) (.int .i64 v)
  | [], _, _, h => by simp at h
  | t :: r, 0, s, h => by
    simp at h
    subst h
    rfl
  | t :: r, i + 1, s, h => by
    show t.cells ++ cellsOf (r.set i _) = (t.cells ++ cellsOf r).set ((i + 1) * 4 + 3) _
    rw [cellsOf_put v (l := r) (by simpa using h), List.set_append_right _ _ (by simp [Slt.cells]; omega)]
    congr 2
    simp [Slt.cells]
    omega
/-- A table whose key is there: its value is laid anew. -/
theorem put_there {m : Mem} {p : Nat} {t : Tab} {r : Nat} {s : Slt} (val : Int) (ht : TabAt m p t) (ho : TabOk t) (hr : t.sl[r]? = some s) (hu : s.used = true) :
    TabAt (m.setCell (((⟨t.q, 0, none⟩ : Addr).add (r * 4)).add 3) (.int .i64 val)) p { t with sl := t.sl.set r { s with v := val } } ∧ TabOk { t with sl := t.sl.set r { s with v := val } } ∧
      Keep [p, t.q] m (m.setCell (((⟨t.q, 0, none⟩ : Addr).add (r * 4)).add 3) (.int .i64 val)) := by
  have hne : t.sl ≠ [] := by rintro h1; rw [h1] at hr; cases hr
  have hg := ho.ok.resolve_left hne
  obtain ⟨hq, hpq⟩ := ht.places hne
  have hrl := lt_of hr
  rw [add_mk, add_mk, Nat.zero_add]
  have hk : Keep [p, t.q] m (m.setCell ⟨t.q, r * 4 + 3, none⟩ (.int .i64 val)) := Keep.cell (by simp)
  have hk' : Keep [t.q] m (m.setCell ⟨t.q, r * 4 + 3, none⟩ (.int .i64 val)) := Keep.cell (by simp)
  have hne' : t.sl.set r { s with v := val } ≠ [] := by rintro h1; have := congrArg List.length h1; simp at this; exact hne this
  refine ⟨⟨?_, fun _ => ⟨?_, hpq⟩, fun u hu' => ?_, by simpa using ht.size, fun x hx => ⟨dom_setCell (ht.far x hx).1, (ht.far x hx).2.1, fun _ => (ht.far x hx).2.2 hne⟩⟩, ⟨.inr (good_value hg hr hu val), ?_, ?_, fun u hu' huu => ?_, ho.w0, ho.w1, ho.most0, ho.most1, ho.full⟩, hk⟩
  · have h1 := ht.head.setCell_ne (c := t.q) (i := r * 4 + 3) (v := .int .i64 val) hpq
    have hs1 : Tab.sA { t with sl := t.sl.set r { s with v := val } } = some ⟨t.q, 0, none⟩ := if_neg hne'
    have hs2 : t.sA = some ⟨t.q, 0, none⟩ := if_neg hne
    rw [hs1, List.length_set]
    rw [hs2] at h1
    exact h1
  · dsimp only
    rw [cellsOf_put val hr]
    exact hq.put _
  · have hu2 : (Ints m u.kA u.ks ∧ Off u.kA u.ks p ∧ Off u.kA u.ks t.q ∧ u.ks.length < 2 ^ 62 ∧ ∀ b, t.g b → Off u.kA u.ks b) := by
      rcases mem_set_at hu' with rfl | hu'
      · exact ht.keys s (List.mem_of_getElem? hr)
      · exact ht.keys u hu'
    exact ⟨hu2.1.keep hk' (by simpa using hu2.2.2.1), hu2.2⟩
  · dsimp only
    rw [ho.many, cnt_set hr, hu]
    have : 0 < cnt t.sl := List.countP_pos_iff.2 ⟨s, List.mem_of_getElem? hr, hu⟩
    simp
    omega
  · dsimp only
    rw [cnt_set hr, hu, List.length_set]
    have := ho.half
    have : 0 < cnt t.sl := List.countP_pos_iff.2 ⟨s, List.mem_of_getElem? hr, hu⟩
    simp
    omega
  · rcases mem_set_at hu' with rfl | hu'
    · exact ho.wid s (List.mem_of_getElem? hr) hu
    · exact ho.wid u hu' huu
/-- A key is laid at a free place. -/
theorem put_new {m : Mem} {p b : Nat} {t : Tab} {ks : List Int} {r c : Nat} {s : Slt} (val : Int) (ht : TabAt m p t) (ho : TabOk t) (hlen : 2 * (cnt t.sl + 1) ≤ t.sl.length) (hr : t.sl[r]? = some s) (hs : s.used = false)
    (hno : ∀ u, u ∈ t.sl → u.used = true → u.ks ≠ ks) (hx : ∀ x, x < t.sl.length → dist t.sl.length (hashOf ks % t.sl.length).toNat x < dist t.sl.length (hashOf ks % t.sl.length).toNat r → Used t.sl x)
    (hI : Ints m (some ⟨b, 0, none⟩) ks) (hb1 : b ≠ p) (hb2 : b ≠ t.q) (hb3 : ∀ x, t.g x → x ≠ b) (hks : ks.length < 2 ^ 62) (hw : (ks.length : Int) = t.w) (hfull : t.many < t.most) :
    TabOk { t with sl := t.sl.set r ⟨true, hashOf ks, some ⟨b, 0, none⟩, ks, c, val⟩, many := t.many + 1 } ∧ Upd t.sl (t.sl.set r ⟨true, hashOf ks, some ⟨b, 0, none⟩, ks, c, val⟩) ks val ∧
      TabAt ((m.setCells ((⟨t.q, 0, none⟩ : Addr).add (r * 4)) 0 [.bool true, .int .u64 (hashOf ks), .slice (some ⟨b, 0, none⟩) ks.length c, .int .i64 val]).setCell ((⟨p, 0, none⟩ : Addr).add 3) (.int .i64 (t.many + 1))) p
        { t with sl := t.sl.set r ⟨true, hashOf ks, some ⟨b, 0, none⟩, ks, c, val⟩, many := t.many + 1 } := by
  have hne : t.sl ≠ [] := by rintro h1; rw [h1] at hr; cases hr
  have hg := ho.ok.resolve_left hne
  obtain ⟨hq, hpq⟩ := ht.places hne
  have hrl := lt_of hr
  have hc : cnt (t.sl.set r ⟨true, hashOf ks, some ⟨b, 0, none⟩, ks, c, val⟩) = cnt t.sl + 1 := by rw [cnt_set hr, hs]; simp
  have hne' : t.sl.set r ⟨true, hashOf ks, some ⟨b, 0, none⟩, ks, c, val⟩ ≠ [] := by rintro h1; have := congrArg List.length h1; simp at this; exact hne this
  have hmany := ho.many
  refine ⟨⟨.inr (good_insert hg hr hs rfl rfl hno hx (by omega)), ?_, ?_, fun u hu huu => ?_, ho.w0, ho.w1, ho.most0, ho.most1, ?_⟩, ?_, ⟨?_, fun _ => ⟨?_, hpq⟩, fun u hu => ?_, by simpa using ht.size, fun x hx => ⟨dom_setCell (dom_setCells _ (ht.far x hx).1), (ht.far x hx).2.1, fun _ => (ht.far x hx).2.2 hne⟩⟩⟩
  · dsimp only
    rw [hc, hmany]
    omega
  · dsimp only
    rw [hc, List.length_set]
    exact hlen
  · rcases mem_set_at hu with rfl | hu
    · exact hw
    · exact ho.wid u hu huu
  · dsimp only
    omega
  · intro k x
    rw [has_insert hr hs rfl]
    constructor
    · rintro (h1 | h1)
      · exact .inl h1
      · refine .inr ⟨?_, h1⟩
        rintro rfl
        obtain ⟨u, hu, huu, huk, _⟩ := h1
        exact hno u hu huu huk
    · rintro (h1 | h1)
      · exact .inl h1
      · exact .inr h1.2
  · have h1 := Blk.put (i := 3) (.int .i64 (t.many + 1)) (ht.head.setCells_ne (c := t.q) (i := 0 + r * 4) (j := 0) (vs := [.bool true, .int .u64 (hashOf ks), .slice (some ⟨b, 0, none⟩) ks.length c, .int .i64 val]) hpq)
    have hs1 : Tab.sA { t with sl := t.sl.set r ⟨true, hashOf ks, some ⟨b, 0, none⟩, ks, c, val⟩, many := t.many + 1 } = some ⟨t.q, 0, none⟩ := if_neg hne'
    have hs2 : t.sA = some ⟨t.q, 0, none⟩ := if_neg hne
    rw [hs1, List.length_set]
    rw [hs2] at h1
    simpa [add_mk] using h1
  · rw [add_mk _ _ 3]
    exact (slot_put (s := ⟨true, hashOf ks, some ⟨b, 0, none⟩, ks, c, val⟩) hq hrl rfl rfl).setCell_ne (Ne.symm hpq)
  · rw [add_mk _ _ 3]
    have hk : Keep [p, t.q] m ((m.setCells ((⟨t.q, 0, none⟩ : Addr).add (r * 4)) 0 [.bool true, .int .u64 (hashOf ks), .slice (some ⟨b, 0, none⟩) ks.length c, .int .i64 val]).setCell ⟨p, 0 + 3, none⟩ (.int .i64 (t.many + 1))) :=
      (Keep.cells_add (by simp)).trans (Keep.cell (by simp))
    have hb : Off (some ⟨b, 0, none⟩) ks p ∧ Off (some ⟨b, 0, none⟩) ks t.q := ⟨.inr fun a ha => by cases ha; exact hb1, .inr fun a ha => by cases ha; exact hb2⟩
    rcases mem_set_at hu with rfl | hu
    · exact ⟨hI.keep hk (by simpa using hb), hb.1, hb.2, hks, fun x hx => .inr fun a ha => by cases ha; exact fun e => hb3 x hx e.symm⟩
    · have := ht.keys u hu
      exact ⟨this.1.keep hk (by simpa using ⟨this.2.1, this.2.2.1⟩), this.2⟩
theorem put_c {m : Mem} {p : Nat} {t : Tab} {A : Option Addr} {ks : List Int} {c : Nat} (val : Int) (ht : TabAt m p t) (ho : TabOk t) (hA : Ints m A ks) (hp : Off A ks p) (hq : Off A ks t.q) :
    FCalls Try.prog 54 [.pointer (some ⟨p, 0, none⟩), .slice A ks.length c, .int .i64 val] m fun v m' => ∃ code t', v = .int .i64 code ∧ TabAt m' p t' ∧ TabOk t' ∧ t'.w = t.w ∧ (t'.most = t.most ∧ t'.g = t.g) ∧
      Keep [p, t.q] m m' ∧ (t'.q = t.q ∨ m t'.q = none) ∧ PutR t ks val code t' := by
  refine fcalls_of_vc (T := tbl) (B := bodies) (pr := []) (DR := dr54) (args := [.v (.pointer (some ⟨p, 0, none⟩)), .v (.slice A ks.length c), .v (.int .i64 val)]) tbl_ok bodies_ok mixed Try.func54 rfl (by decide +kernel) (by simp [Try.f54]) rfl ?_
  have hhead := ht.head
  (conv => whnf)
  refine ⟨_, hhead.cell (i := 0) rfl, ?_⟩
  (conv => whnf)
  refine brk_intro (fun h => ?_) (fun h => ?_)
  · have hw : (ks.length : Int) ≠ t.w := by simpa using h
    (conv => whnf)
    exact ⟨11, t, rfl, ht, ho, rfl, ⟨rfl, rfl⟩, Keep.refl, .inl rfl, .inl ⟨hw, rfl, rfl⟩⟩
  have hw : (ks.length : Int) = t.w := by simpa using h
  have hw1 := ho.w1
  have hks : ks.length < 2 ^ 62 := by omega
  have hmany := ho.many
  have hmost := ho.most1
  have hfull := ho.full
  (conv => whnf)
  refine FCalls.mono (hash_c hA hks) ?_
  rintro v m' ⟨rfl, rfl⟩
  (conv => whnf)
  refine ⟨_, _, _, hhead.cell (i := 2) rfl, ?_⟩
  (conv => whnf)
  refine brk_intro (fun h1 => ?a1) (fun h1 => ?a2)
  case' a1 =>
    have hne : t.sl ≠ [] := by rintro h2; simp [h2] at h1
    have hg := ho.ok.resolve_left hne
    obtain ⟨k, hk, hn⟩ := hg.pow
    obtain ⟨r, s, hr, hat, hor⟩ := at_any hg ks
    obtain ⟨hqb, hpq⟩ := ht.places hne
    have hsA : t.sA = some ⟨t.q, 0, none⟩ := if_neg hne
    rw [hsA] at hhead
    have hrl := lt_of hr
    (conv => whnf)
    refine ⟨_, _, _, hhead.cell (i := 2) rfl, ?_⟩
    (conv => whnf)
    refine ⟨_, at_c ht hA hks hn hk hat, ?_⟩
    (conv => whnf)
    refine ⟨_, rfl, by omega, by omega, ?_⟩
    (conv => whnf)
    refine ⟨_, slot_cell hqb (i := (r : Int).toNat) hr (f := 0) (by decide) rfl rfl, ?_⟩
    (conv => whnf)
    rcases hor with ⟨hu, hk⟩ | ⟨hu, hno, _⟩
    · refine brk_true hu ?_
      (conv => whnf)
      refine ⟨⟨⟨_, slot_cell hqb (i := (r : Int).toNat) hr (f := 3) (by decide) rfl rfl⟩, by rw [add_mk, add_mk]; exact hqb.fz⟩, ?_⟩
      (conv => whnf)
      obtain ⟨h2, h3, h4⟩ := put_there val ht ho hr hu
      refine ⟨0, { t with sl := t.sl.set r { s with v := val } }, rfl, h2, h3, rfl, ⟨rfl, rfl⟩, h4, .inl rfl, .inr (.inl ⟨hw, ⟨s.v, s, List.mem_of_getElem? hr, hu, hk, rfl⟩, rfl, rfl, by simp, fun k x => ?_⟩)⟩
      rw [has_value hg hr hu, hk]
    refine brk_false hu ?_
    (conv => whnf)
  case' a2 =>
    have hno : ∀ u, u ∈ t.sl → u.used = true → u.ks ≠ ks := by
      have h2 : t.sl = [] := by
        have : ¬ (t.sl.length : Int) > 0 := by simpa using h1
        exact List.length_eq_zero_iff.1 (by omega)
      intro u hu
      rw [h2] at hu
      cases hu
    (conv => whnf)
  all_goals
    have hno' : ∀ v0, ¬ Has t.sl ks v0 := by
      rintro v0 ⟨u, hu, huu, huk, _⟩
      exact hno u hu huu huk
    refine ⟨_, ht.head.cell (i := 3) rfl, ?_⟩
    (conv => whnf)
    refine ⟨_, ht.head.cell (i := 1) rfl, ?_⟩
    (conv => whnf)
    refine brk_intro (fun h2 => ?_) (fun h2 => ?_)
    · have h2 : t.many ≥ t.most := by simpa using h2
      (conv => whnf)
      exact ⟨10, t, rfl, ht, ho, rfl, ⟨rfl, rfl⟩, Keep.refl, .inl rfl, .inr (.inr (.inl ⟨hw, hno', h2, rfl, rfl⟩))⟩
    · have h2 : t.many < t.most := by simpa using h2
      (conv => whnf)
      refine FCalls.mono (grow_c ht ho h2) ?_
      rintro v m1 ⟨t1, rfl, ht1, ho1, e1, ⟨e2, eg⟩, e3, hHas, hl1, hl2, hk1, hq1⟩
      have hq1' : Off A ks t1.q := by
        rcases hq1 with hq1 | hq1
        · rw [hq1]; exact hq
        · exact hA.off_new hq1
      have hA1 : Ints m1 A ks := hA.keep hk1 (by simpa using hp)
      (conv => whnf)
      refine ⟨by omega, by omega, by omega, ?_, fun b hb => ?_⟩
      · have : ((tbl.at 3).bytes : Int) = 8 := rfl
        rw [this]
        omega
      (conv => whnf)
      rw [Int.toNat_natCast, Nat.min_self, show (tbl.at 3).size = 1 from rfl, Nat.mul_one]
      refine ⟨intCells .i64 ks, ints_length _ _, ?_, ?_⟩
      · rcases (hA1.keep (bad := []) (Keep.set (o := .cells (zerosOf tbl 3 ks.length).list.toArray 3 (0, 0)) hb) (by simp)).holds with h3 | ⟨q, h3, h4⟩
        · exact .inl (by rw [h3]; rfl)
        · exact .inr ⟨_, q, rfl, h3, h4, Blk.new.room (by rw [zeros_ints, ints_length]; simp), oneCells_ints _ _⟩
      have hown := copy_own (m := m1) (b := b) (xs := ks)
      have hk2 : Keep [] m1 ((m1.set b (.cells (zerosOf tbl 3 ks.length).list.toArray 3 (0, 0))).setCells ⟨b, 0, none⟩ 0 (intCells .i64 ks)) := (Keep.set hb).cells_new hb
      have ht2 := ht1.mono hk2
      have hA2 := hA1.keep hk2 (by simp)
      have hlen1 : 0 < t1.sl.length := by omega
      have hne1 : t1.sl ≠ [] := by rintro e; rw [e] at hlen1; simp at hlen1
      have hg1 := ho1.ok.resolve_left hne1
      obtain ⟨k1, hk1', hn1⟩ := hg1.pow
      have hno1 : ∀ u, u ∈ t1.sl → u.used = true → u.ks ≠ ks := by
        intro u hu huu huk
        exact hno' u.v ((hHas ks u.v).1 ⟨u, hu, huu, huk, rfl⟩)
      obtain ⟨r1, s1, hr1, hs1, hat1, hx1⟩ := at_free hg1 hno1
      have hr1l := lt_of hr1
      obtain ⟨hqb1, hpq1⟩ := ht2.places hne1
      have hsA1 : t1.sA = some ⟨t1.q, 0, none⟩ := if_neg hne1
      have hhead1 := ht2.head
      have hl1' : cnt t1.sl = cnt t.sl := by
        have := ho1.many
        have := ho.many
        omega
      rw [hsA1] at hhead1
      have hbp : b ≠ p := Ne.symm (ht1.head.ne hb)
      have hbq : b ≠ t1.q := Ne.symm ((ht1.places hne1).1.ne hb)
      (conv => whnf)
      generalize (m1.set b (.cells (zerosOf tbl 3 ks.length).list.toArray 3 (0, 0))).setCells ⟨b, 0, none⟩ 0 (intCells .i64 ks) = m2 at *
      refine ⟨_, _, _, hhead1.cell (i := 2) rfl, ?_⟩
      (conv => whnf)
      refine ⟨_, at_c ht2 hA2 hks hn1 hk1' hat1, ?_⟩
      (conv => whnf)
      refine ⟨_, rfl, by omega, by omega, ?_⟩
      (conv => whnf)
      refine ⟨slot_room hqb1 hr1l rfl rfl, ?_⟩
      (conv => whnf)
      have hw3 : IntKind.i64.wrap (t1.many + 1) = t1.many + 1 := wrap_id (by rw [e3, hmany]; omega) (by rw [e3]; omega)
      have hh3 := hhead1.setCells_ne (c := t1.q) (i := 0 + r1 * 4) (j := 0) (vs := [.bool true, .int .u64 (hashOf ks), .slice (some ⟨b, 0, none⟩) ks.length ks.length, .int .i64 val]) hpq1
      rw [← add_mk] at hh3
      refine ⟨_, hh3.cell (i := 3) rfl, ?_⟩
      (conv => whnf)
      refine ⟨⟨⟨_, hh3.cell (i := 3) rfl⟩, hh3.fz⟩, ?_⟩
      (conv => whnf)
      obtain ⟨ho3, hupd, ht3⟩ := put_new (c := ks.length) val ht2 ho1 (by rw [hl1']; exact hl1) hr1 hs1 hno1 hx1 hown hbp hbq (fun x hx => by rintro rfl; exact (ht1.far _ hx).1 hb) hks (hw.trans e1.symm) (by rw [e2, e3]; exact h2)
      rw [hw3]
      refine ⟨0, _, rfl, ht3, ho3, e1, ⟨e2, eg⟩, ?_, hq1, .inr (.inr (.inr ⟨hw, hno', h2, rfl, by dsimp only; rw [e3], ?_, ?_⟩))⟩
      · have hk3 : Keep [p, t1.q] m' ((m2.setCells ((⟨t1.q, 0, none⟩ : Addr).add (r1 * 4)) 0 [.bool true, .int .u64 (hashOf ks), .slice (some ⟨b, 0, none⟩) ks.length ks.length, .int .i64 val]).setCell ((⟨p, 0, none⟩ : Addr).add 3) (.int .i64 (t1.many + 1))) := by
          rw [add_mk _ _ 3]
          exact ((hk1.more (by simp)).trans (hk2.more (by simp))).trans ((Keep.cells_add (by simp)).trans (Keep.cell (by simp)))
        intro c o hc1 hc2
        refine hk3 c o hc1 ?_
        simp only [List.mem_cons, List.not_mem_nil, or_false, not_or] at hc2 ⊢
        refine ⟨hc2.1, ?_⟩
        rintro rfl
        rcases hq1 with hq1 | hq1
        · exact hc2.2 hq1
        · rw [hc1] at hq1; cases hq1
      · intro k x
        rw [hupd, hHas]
      · dsimp only
        rw [List.length_set]
        exact hl2
end Go.Proofs.Ytkkcdfnlmhmheaa
/- The table: Drop. -/
namespace Go.Proofs.Ytkkcdfnlmhmheaa
open Go Go.Mv
set_option maxHeartbeats 1000000
set_option linter.unusedVariables false
set_option linter.unusedSimpArgs false
attribute [local irreducible] FCalls IntKind.wrap bits Mem.set Mem.setCell Mem.setCells
theorem int_dist {n k a b : Nat} (hn : n = 2 ^ k) (hk : k < 40) (ha : a < n) (hb : b < n) : bits .and .i64 (IntKind.i64.wrap ((b : Int) - a)) (IntKind.i64.wrap ((n : Int) - 1)) = (dist n a b : Nat) := by
  have h2 : n < 2 ^ 40 := by rw [hn]; exact Nat.pow_lt_pow_right (by omega) hk
  rw [mask_spec hn hk, wrap_id (by omega) (by omega)]
  have := dist_cases n a b
  rcases this with ⟨h, e⟩ | ⟨h, e⟩
  · rw [e, Int.emod_eq_of_lt (by omega) (by omega)]
    omega
  · rw [e, ← Int.add_emod_right, Int.emod_eq_of_lt (by omega) (by omega)]
    omega
theorem int_nxt {n k a : Nat} (hn : n = 2 ^ k) (hk : k < 40) (ha : a < n) : bits .and .i64 (IntKind.i64.wrap ((a : Int) + 1)) (IntKind.i64.wrap ((n : Int) - 1)) = (nxt n a : Nat) := by
  have h2 : n < 2 ^ 40 := by rw [hn]; exact Nat.pow_lt_pow_right (by omega) hk
  rw [mask_spec hn hk, wrap_id (by omega) (by omega), ← nxt_eq ha]
  simp
theorem int_home {n k : Nat} {s : Slt} (hn : n = 2 ^ k) (hk : k < 40) : bits .and .i64 (IntKind.i64.wrap s.h) (IntKind.i64.wrap ((n : Int) - 1)) = (home n s : Nat) := by
  have h2 : 0 < n := by rw [hn]; exact Nat.two_pow_pos k
  rw [mask_spec hn hk, wrap_mod hn hk]
  unfold home
  have := Int.emod_nonneg s.h (show (n : Int) ≠ 0 by omega)
  omega
theorem cnt_flags : ∀ {a b : List Slt}, a.length = b.length → (∀ x, Used a x ↔ Used b x) → cnt a = cnt b
  | [], [], _, _ => rfl
  | [], _ :: _, h, _ => by simp at h
  | _ :: _, [], h, _ => by simp at h
  | s :: a, t :: b, h, hf => by
    have h0 : s.used = t.used := by
      have := hf 0
      simp [Used] at this
      cases hs : s.used <;> cases ht : t.used <;> simp_all
    have ih : cnt a = cnt b := cnt_flags (by simpa using h) fun x => by
      have := hf (x + 1)
      simpa [Used] using this
    unfold cnt at *
    rw [List.countP_cons, List.countP_cons, ih, h0]
/-- A place is laid over. -/
theorem place_at {m : Mem} {p r : Nat} {t : Tab} {s : Slt} (ht : TabAt m p t) (hr : r < t.sl.length) (hs : Ints m s.kA s.ks ∧ Off s.kA s.ks p ∧ Off s.kA s.ks t.q ∧ s.ks.length < 2 ^ 62 ∧ ∀ b, t.g b → Off s.kA s.ks b) :
    TabAt (m.setCells ((⟨t.q, 0, none⟩ : Addr).add (r * 4)) 0 s.cells) p { t with sl := t.sl.set r s } ∧ Keep [t.q] m (m.setCells ((⟨t.q, 0, none⟩ : Addr).add (r * 4)) 0 s.cells) := by
  have hne : t.sl ≠ [] := by rintro h1; rw [h1] at hr; simp at hr
  obtain ⟨hq, hpq⟩ := ht.places hne
  have hne' : t.sl.set r s ≠ [] := by rintro h1; have := congrArg List.length h1; simp at this; exact hne this
  have hk : Keep [t.q] m (m.setCells ((⟨t.q, 0, none⟩ : Addr).add (r * 4)) 0 s.cells) := Keep.cells_add (by simp)
  refine ⟨⟨?_, fun _ => ⟨slot_put hq hr rfl rfl, hpq⟩, fun u hu => ?_, by simpa using ht.size, fun x hx => ⟨dom_setCells _ (ht.far x hx).1, (ht.far x hx).2.1, fun _ => (ht.far x hx).2.2 hne⟩⟩, hk⟩
  · have h1 := ht.head.setCells_ne (c := t.q) (i := 0 + r * 4) (j := 0) (vs := s.cells) hpq
    rw [← add_mk] at h1
    have hs1 : Tab.sA { t with sl := t.sl.set r s } = some ⟨t.q, 0, none⟩ := if_neg hne'
    have hs2 : t.sA = some ⟨t.q, 0, none⟩ := if_neg hne
    rw [hs1, List.length_set]
    rw [hs2] at h1
    exact h1
  · rcases mem_set_at hu with rfl | hu
    · exact ⟨hs.1.keep hk (by simpa using hs.2.2.1), hs.2⟩
    · have := ht.keys u hu
      exact ⟨this.1.keep hk (by simpa using this.2.2.1), this.2⟩
theorem many_at {m : Mem} {p : Nat} {t : Tab} {n : Int} (ht : TabAt m p t) : TabAt (m.setCell ((⟨p, 0, none⟩ : Addr).add 3) (.int .i64 n)) p { t with many := n } ∧ Keep [p] m (m.setCell ((⟨p, 0, none⟩ : Addr).add 3) (.int .i64 n)) := by
  rw [add_mk]
  have hk : Keep [p] m (m.setCell ⟨p, 0 + 3, none⟩ (.int .i64 n)) := Keep.cell (by simp)
  refine ⟨⟨ht.head.put (i := 3) _, fun h => ⟨(ht.places h).1.setCell_ne (Ne.symm (ht.places h).2), (ht.places h).2⟩, fun u hu => ?_, ht.size, fun x hx => ⟨dom_setCell (ht.far x hx).1, (ht.far x hx).2⟩⟩, hk⟩
  have := ht.keys u hu
  exact ⟨this.1.keep hk (by simpa using this.2.1), this.2⟩
end Go.Proofs.Ytkkcdfnlmhmheaa
/- The laws' own small functions: pick, Compare, same, known. -/
namespace Go.Proofs.Ytkkcdfnlmhmheaa
open Go Go.Mv
set_option maxHeartbeats 1000000
set_option linter.unusedVariables false
set_option linter.unusedSimpArgs false
attribute [local irreducible] FCalls IntKind.wrap bits Mem.set Mem.setCell Mem.setCells
def cmpL : List Int → List Int → Int
  | a :: r, b :: s => if a < b then -1 else if a > b then 1 else cmpL r s
  | _, _ => 0
theorem cmpL_eq : ∀ {a b : List Int}, a.length = b.length → (cmpL a b = 0 ↔ a = b)
  | [], [], _ => by simp [cmpL]
  | [], _ :: _, h => by simp at h
  | _ :: _, [], h => by simp at h
  | a :: r, b :: s, h => by
    have ih := cmpL_eq (a := r) (b := s) (by simpa using h)
    simp only [cmpL]
    split
    · simp; omega
    · split
      · simp; omega
      · have : a = b := by omega
        rw [ih, this]
        simp
theorem drop_getD {xs : List Int} {i : Nat} (h : i < xs.length) : xs.drop i = xs.getD i 0 :: xs.drop (i + 1) := by
  rw [List.drop_eq_getElem_cons h]
  simp [List.getD, h]
end Go.Proofs.Ytkkcdfnlmhmheaa
/- The table as a map. -/
namespace Go.Proofs.Ytkkcdfnlmhmheaa
open Go Go.Mv
set_option maxHeartbeats 1000000
set_option linter.unusedVariables false
set_option linter.unusedSimpArgs false
attribute [local irreducible] FCalls IntKind.wrap bits Mem.set Mem.setCell Mem.setCells
structure Abs where
  w : Int
  most : Int
  f : List Int → Option Int
  n : Nat
  len : Nat
/-- At p stands a table that is the map a; since m0 nothing else has changed, and p is new since then. -/
structure TM' (m0 m : Mem) (p : Nat) (a : Abs) (t : Tab) : Prop where
  tab : TabAt m p t
  ok : TabOk t
  qp : t.sl = [] → t.q = p
  fp : m0 p = none
  fq : m0 t.q = none
  keep : Keep [] m0 m
  ew : t.w = a.w
  em : t.most = a.most
  en : t.many = a.n
  el : t.sl.length = a.len
  map : ∀ k x, Has t.sl k x ↔ a.f k = some x
  eg : ∀ b, t.g b ↔ m0 b ≠ none
def TM (m0 m : Mem) (p : Nat) (a : Abs) : Prop := ∃ t, TM' m0 m p a t
theorem Keep.bads {m0 m m' : Mem} {bad : List Nat} (h : Keep [] m0 m) (k : Keep bad m m') (hb : ∀ b, b ∈ bad → m0 b = none) : Keep [] m0 m' := fun c o hc _ => by
  refine k c o (h c o hc (by simp)) fun hm => ?_
  rw [hb c hm] at hc
  cases hc
theorem TM.mono {m0 m m' : Mem} {p : Nat} {a : Abs} (h : TM m0 m p a) (hk : Keep [] m m') : TM m0 m' p a := by
  obtain ⟨t, h⟩ := h
  exact ⟨t, h.tab.mono hk, h.ok, h.qp, h.fp, h.fq, h.keep.trans hk, h.ew, h.em, h.en, h.el, h.map, h.eg⟩
theorem TM.keep {m0 m : Mem} {p : Nat} {a : Abs} (h : TM m0 m p a) : Keep [] m0 m := h.choose_spec.keep
/-- A block that the table does not have becomes one of those that are kept. -/
theorem TM'.take {m0 mb m1 : Mem} {p b : Nat} {a : Abs} {t : Tab} {o : Obj} (h : TM' m0 mb p a t) (hb : mb b = none) (hm : Keep [] mb m1) (ho : m1 b = some o) : TM' (m0.set b o) m1 p a { t with g := fun x => (m0.set b o) x ≠ none } := by
  have hbp : p ≠ b := h.tab.head.ne hb
  have hbq : t.q ≠ b := by
    by_cases hs : t.sl = []
    · rw [h.qp hs]; exact hbp
    · exact (h.tab.places hs).1.ne hb
  have hT := h.tab.mono hm
  have hset : ∀ x, (m0.set b o) x ≠ none → m0 x ≠ none ∨ x = b := fun x hx => by
    by_cases hxb : x = b
    · exact .inr hxb
    · rw [Mem.set_ne hxb] at hx; exact .inl hx
  refine ⟨⟨hT.head, hT.places, fun s hs => ⟨(hT.keys s hs).1, (hT.keys s hs).2.1, (hT.keys s hs).2.2.1, (hT.keys s hs).2.2.2.1, fun x hx => ?_⟩, hT.size, fun x hx => ?_⟩, ⟨h.ok.ok, h.ok.many, h.ok.half, h.ok.wid, h.ok.w0, h.ok.w1, h.ok.most0, h.ok.most1, h.ok.full⟩, h.qp, by rw [Mem.set_ne hbp]; exact h.fp, by rw [Mem.set_ne hbq]; exact h.fq, fun c o' hc _ => ?_, h.ew, h.em, h.en, h.el, h.map, fun _ => Iff.rfl⟩
  · rcases hset x hx with hx | rfl
    · exact (h.tab.keys s hs).2.2.2.2 x ((h.eg x).2 hx)
    · exact (h.tab.keys s hs).1.off_new hb
  · rcases hset x hx with hx | rfl
    · exact hT.far x ((h.eg x).2 hx)
    · exact ⟨by rw [ho]; simp, Ne.symm hbp, fun _ => Ne.symm hbq⟩
  · by_cases hcb : c = b
    · subst hcb
      have e1 : (m0.set c o) c = some o := by simp [Mem.set]
      rw [e1] at hc
      cases hc
      exact ho
    · rw [Mem.set_ne hcb] at hc
      exact hm c o' (h.keep c o' hc (by simp)) (by simp)
theorem TM.build {m0 m : Mem} {p b : Nat} {a : Abs} {o : Obj} (h : TM m0 m p a) (hb : m b = none) : TM (m0.set b o) (m.set b o) p a ∧ m0 b = none := by
  obtain ⟨t, h⟩ := h
  have h0 : m0 b = none := by
    cases hm : m0 b with
    | none => rfl
    | some o' => rw [h.keep b o' hm (by simp)] at hb; cases hb
  exact ⟨⟨_, h.take hb (Keep.set hb) (by simp [Mem.set])⟩, h0⟩
theorem keep_unbuild {m0 m : Mem} {b : Nat} {o : Obj} (h : Keep [] (m0.set b o) m) (hb : m0 b = none) : Keep [] m0 m := fun c o' hc _ => by
  refine h c o' ?_ (by simp)
  rw [Mem.set_ne]
  · exact hc
  · rintro rfl
    rw [hc] at hb
    cases hb
theorem Ints.built {m : Mem} {b e : Nat} {xs : List Int} : Ints (m.set b (.cells (intCells .i64 xs).toArray e (0, 0))) (some ⟨b, 0, none⟩) xs := Blk.ints_ Blk.new
def updF (f : List Int → Option Int) (ks : List Int) (v : Option Int) : List Int → Option Int := fun k => if k = ks then v else f k
def lenR (a : Abs) (len' : Nat) : Prop := len' = a.len ∨ (2 * (a.n + 1) > a.len ∧ len' = max 8 (2 * a.len))
def putA (a : Abs) (ks : List Int) (v : Int) (code : Int) (a' : Abs) : Prop :=
  a'.w = a.w ∧ a'.most = a.most ∧
  if (ks.length : Int) ≠ a.w then code = 11 ∧ a' = a
  else if (a.f ks).isSome then code = 0 ∧ a'.f = updF a.f ks (some v) ∧ a'.n = a.n ∧ a'.len = a.len
  else if a.most ≤ a.n then code = 10 ∧ a' = a
  else code = 0 ∧ a'.f = updF a.f ks (some v) ∧ a'.n = a.n + 1 ∧ lenR a a'.len
theorem TM.some_iff {m0 m : Mem} {p : Nat} {a : Abs} {t : Tab} (h : TM' m0 m p a t) {ks : List Int} : (a.f ks).isSome = true ↔ ∃ v, Has t.sl ks v := by
  rw [Option.isSome_iff_exists]
  exact exists_congr fun v => (h.map ks v).symm
theorem map_upd {f : List Int → Option Int} {sl sl' : List Slt} {ks : List Int} {v : Int} (hm : ∀ k x, Has sl k x ↔ f k = some x) (hu : Upd sl sl' ks v) : ∀ k x, Has sl' k x ↔ updF f ks (some v) k = some x := by
  intro k x
  rw [hu, hm]
  unfold updF
  by_cases hk : k = ks
  · rw [if_pos hk]
    constructor
    · rintro (⟨_, rfl⟩ | ⟨h, _⟩)
      · rfl
      · exact absurd hk h
    · intro h
      exact .inl ⟨hk, (Option.some.inj h).symm⟩
  · rw [if_neg hk]
    constructor
    · rintro (⟨h, _⟩ | ⟨_, h⟩)
      · exact absurd h hk
      · exact h
    · exact fun h => .inr ⟨hk, h⟩
theorem put_m {m0 m : Mem} {p : Nat} {a : Abs} {A : Option Addr} {ks : List Int} {c : Nat} (val : Int) (h : TM m0 m p a) (hI : Ints m0 A ks) :
    FCalls Try.prog 54 [.pointer (some ⟨p, 0, none⟩), .slice A ks.length c, .int .i64 val] m fun v m' => ∃ code a', v = .int .i64 code ∧ TM m0 m' p a' ∧ putA a ks val code a' := by
  obtain ⟨t, h⟩ := h
  refine FCalls.mono (put_c val h.tab h.ok (hI.keep h.keep (by simp)) (hI.off_new h.fp) (hI.off_new h.fq)) ?_
  rintro v m' ⟨code, t', rfl, ht, ho, hw, hm, hk, hq, hr⟩
  have hq0 : m0 t'.q = none := by
    rcases hq with hq | hq
    · rw [hq]; exact h.fq
    · cases hc : m0 t'.q with
      | none => rfl
      | some o => rw [h.keep _ o hc (by simp)] at hq; cases hq
  have hkp : Keep [] m0 m' := h.keep.bads hk (by simpa using ⟨h.fp, h.fq⟩)
  have hsome := TM.some_iff h (ks := ks)
  have hmany := h.ok.many
  have hcnt : cnt t.sl = a.n := by have := h.en; omega
  have hlen := h.el
  rcases hr with ⟨h1, rfl, rfl⟩ | ⟨h1, h2, rfl, h4, h5, h6⟩ | ⟨h1, h2, h3, rfl, rfl⟩ | ⟨h1, h2, h3, rfl, h5, h6, h7⟩
  · refine ⟨11, a, rfl, ⟨_, ht, ho, h.qp, h.fp, hq0, hkp, h.ew, h.em, h.en, h.el, h.map, h.eg⟩, rfl, rfl, ?_⟩
    rw [if_pos (by rw [← h.ew]; exact h1)]
    exact ⟨rfl, rfl⟩
  · refine ⟨0, { a with f := updF a.f ks (some val) }, rfl, ⟨t', ht, ho, ?_, h.fp, hq0, hkp, hw.trans h.ew, hm.1.trans h.em, h4.trans h.en, h5.trans h.el, map_upd h.map h6, by rw [hm.2]; exact h.eg⟩, rfl, rfl, ?_⟩
    · intro he
      rw [he] at h5
      obtain ⟨v0, s, hs, _⟩ := h2
      rw [List.length_eq_zero_iff.1 h5.symm] at hs
      cases hs
    · rw [if_neg (by rw [← h.ew]; simpa using h1), if_pos (hsome.2 h2)]
      exact ⟨rfl, rfl, rfl, rfl⟩
  · refine ⟨10, a, rfl, ⟨_, ht, ho, h.qp, h.fp, hq0, hkp, h.ew, h.em, h.en, h.el, h.map, h.eg⟩, rfl, rfl, ?_⟩
    rw [if_neg (by rw [← h.ew]; simpa using h1), if_neg (fun hc => by obtain ⟨v, hv⟩ := hsome.1 hc; exact h2 v hv), if_pos (by rw [← h.em, ← h.en]; exact h3)]
    exact ⟨rfl, rfl⟩
  · refine ⟨0, { a with f := updF a.f ks (some val), n := a.n + 1, len := t'.sl.length }, rfl, ⟨t', ht, ho, ?_, h.fp, hq0, hkp, hw.trans h.ew, hm.1.trans h.em, by rw [h5, h.en]; simp, rfl, map_upd h.map h6, by rw [hm.2]; exact h.eg⟩, rfl, rfl, ?_⟩
    · intro he
      have := (h6 ks val).2 (.inl ⟨rfl, rfl⟩)
      obtain ⟨s, hs, _⟩ := this
      rw [he] at hs
      cases hs
    · rw [if_neg (by rw [← h.ew]; simpa using h1), if_neg (fun hc => by obtain ⟨v, hv⟩ := hsome.1 hc; exact h2 v hv), if_neg (by rw [← h.em, ← h.en]; omega)]
      refine ⟨rfl, rfl, rfl, ?_⟩
      unfold lenR
      dsimp only
      rw [← hcnt, ← hlen]
      exact h7
theorem get_m {m0 m : Mem} {p : Nat} {a : Abs} {A : Option Addr} {ks : List Int} {c : Nat} (h : TM m0 m p a) (hI : Ints m0 A ks) :
    FCalls Try.prog 47 [.pointer (some ⟨p, 0, none⟩), .slice A ks.length c] m fun v m' => v = .tuple #[.int .i64 ((a.f ks).getD 0), .bool (a.f ks).isSome] ∧ m' = m := by
  obtain ⟨t, h⟩ := h
  refine FCalls.mono (get_c h.tab h.ok (hI.keep h.keep (by simp))) ?_
  rintro v m' ⟨x, b, rfl, rfl, ⟨rfl, h1⟩ | ⟨rfl, rfl, h1⟩⟩
  · rw [(h.map ks x).1 h1]
    exact ⟨rfl, rfl⟩
  · have : a.f ks = none := by
      cases hf : a.f ks with
      | none => rfl
      | some v => exact absurd ((h.map ks v).2 hf) (h1 v)
    rw [this]
    exact ⟨rfl, rfl⟩
theorem new_m {m : Mem} {w most : Int} (hw : 0 ≤ w) (hw1 : w ≤ 128) (hm : 0 ≤ most) (hm1 : most ≤ 1000000) :
    FCalls Try.prog 26 [.int .i64 w, .int .i64 most] m fun v m' => ∃ p, v = .tuple #[.pointer (some ⟨p, 0, none⟩), .int .i64 0] ∧ TM m m' p ⟨w, most, fun _ => none, 0, 0⟩ := by
  refine FCalls.mono (new_c (g := fun b => m b ≠ none) (fun b h => h) hw hw1 hm hm1) ?_
  rintro v m' ⟨p, rfl, hp, ht, hk⟩
  refine ⟨p, rfl, _, ht, ⟨.inl rfl, rfl, by simp [cnt], fun s hs => (by cases hs), hw, hw1, hm, hm1, hm⟩, fun _ => rfl, hp, hp, hk, rfl, rfl, rfl, rfl, fun k x => ?_, fun _ => Iff.rfl⟩
  constructor
  · rintro ⟨s, hs, _⟩
    cases hs
  · exact fun hh => by cases hh
end Go.Proofs.Ytkkcdfnlmhmheaa
/- known: the chapter's first example. -/
namespace Go.Proofs.Ytkkcdfnlmhmheaa
open Go Go.Mv
set_option maxHeartbeats 1000000
set_option maxRecDepth 10000
set_option linter.unusedVariables false
set_option linter.unusedSimpArgs false
attribute [local irreducible] FCalls IntKind.wrap bits Mem.set Mem.setCell Mem.setCells
end Go.Proofs.Ytkkcdfnlmhmheaa
/- Table: the order of keys; slices.Compare, slices.Clone. -/
namespace Go.Proofs.Ytkkcdfnlmhmheaa
open Go Go.Mv
set_option maxHeartbeats 1000000
set_option maxRecDepth 10000
set_option linter.unusedVariables false
set_option linter.unusedSimpArgs false
attribute [local irreducible] FCalls IntKind.wrap bits Mem.set Mem.setCell Mem.setCells YCalls
def cmpI (x y : Int) : Int := if x < y then -1 else if y < x then 1 else 0
def lexC : List Int → List Int → Int
  | [], [] => 0
  | [], _ :: _ => -1
  | _ :: _, [] => 1
  | x :: xs, y :: ys => if cmpI x y = 0 then lexC xs ys else cmpI x y
theorem cmpI_cases (x y : Int) : (x < y ∧ cmpI x y = -1) ∨ (x = y ∧ cmpI x y = 0) ∨ (y < x ∧ cmpI x y = 1) := by
  unfold cmpI
  by_cases h1 : x < y
  · exact .inl ⟨h1, if_pos h1⟩
  · by_cases h2 : y < x
    · exact .inr (.inr ⟨h2, by rw [if_neg h1, if_pos h2]⟩)
    · exact .inr (.inl ⟨by omega, by rw [if_neg h1, if_neg h2]⟩)
theorem lexC_self : ∀ xs : List Int, lexC xs xs = 0
  | [] => rfl
  | x :: xs => by
    have : cmpI x x = 0 := by unfold cmpI; simp
    simp only [lexC, this, if_true]
    exact lexC_self xs
theorem lexC_neg : ∀ xs ys : List Int, lexC ys xs = - lexC xs ys
  | [], [] => rfl
  | [], _ :: _ => rfl
  | _ :: _, [] => rfl
  | x :: xs, y :: ys => by
    simp only [lexC]
    rcases cmpI_cases x y with ⟨h, e⟩ | ⟨h, e⟩ | ⟨h, e⟩ <;> rcases cmpI_cases y x with ⟨h', e'⟩ | ⟨h', e'⟩ | ⟨h', e'⟩ <;> first | omega | (rw [e, e']; simp) 
    exact lexC_neg xs ys
theorem lexC_zero : ∀ {xs ys : List Int}, lexC xs ys = 0 → xs = ys
  | [], [], _ => rfl
  | [], _ :: _, h => by simp [lexC] at h
  | _ :: _, [], h => by simp [lexC] at h
  | x :: xs, y :: ys, h => by
    simp only [lexC] at h
    rcases cmpI_cases x y with ⟨h1, e⟩ | ⟨h1, e⟩ | ⟨h1, e⟩ <;> rw [e] at h
    · simp at h
    · rw [if_pos rfl] at h
      rw [h1, lexC_zero h]
    · simp at h
theorem lexC_le_trans : ∀ {xs ys zs : List Int}, lexC xs ys ≤ 0 → lexC ys zs ≤ 0 → lexC xs zs ≤ 0 ∧ (lexC xs ys < 0 ∨ lexC ys zs < 0 → lexC xs zs < 0)
  | [], ys, [], h1, h2 => by
    cases ys with
    | nil => simp [lexC]
    | cons y ys => simp [lexC] at h2
  | [], _, _ :: _, _, _ => by simp [lexC]
  | _ :: _, [], _, h1, _ => by simp [lexC] at h1
  | _ :: _, _ :: _, [], _, h2 => by simp [lexC] at h2
  | x :: xs, y :: ys, z :: zs, h1, h2 => by
    simp only [lexC] at h1 h2 ⊢
    rcases cmpI_cases x y with ⟨a, e⟩ | ⟨a, e⟩ | ⟨a, e⟩ <;> rcases cmpI_cases y z with ⟨b, e'⟩ | ⟨b, e'⟩ | ⟨b, e'⟩ <;> rcases cmpI_cases x z with ⟨c, e''⟩ | ⟨c, e''⟩ | ⟨c, e''⟩ <;> rw [e] at h1 ⊢ <;> rw [e'] at h2 ⊢ <;> rw [e''] <;> first | omega | (simp at h1 h2 ⊢; try omega)
    exact lexC_le_trans h1 h2
theorem lexC_drop {xs ys : List Int} {i : Nat} (hx : i < xs.length) (hy : i < ys.length) : lexC (xs.drop i) (ys.drop i) = if cmpI (xs.getD i 0) (ys.getD i 0) = 0 then lexC (xs.drop (i + 1)) (ys.drop (i + 1)) else cmpI (xs.getD i 0) (ys.getD i 0) := by
  rw [drop_getD hx, drop_getD hy]
  rfl
def ints (xs : List Int) : List Value := xs.map (.int .i64)
theorem ints_len (zs : List Int) : (ints zs).length = zs.length * 1 := by simp [ints]
theorem ints_get {zs : List Int} {k : Nat} {x : Int} (h : zs[k]? = some x) : (ints zs)[k]? = some (.int .i64 x) := by simp [ints, h]
theorem ints_one (xs : List Int) : oneCells (ints xs) = true := by
  induction xs with
  | nil => rfl
  | cons x r ih => exact ih
theorem ints_of_sl {m : Mem} {A : Option Addr} {n c : Nat} {xs : List Int} (h : sl A n c 1 (ints xs) m) : Ints m A xs := by
  obtain ⟨h1, h2, h3⟩ := h
  rcases h3 with ⟨rfl, rfl⟩ | ⟨b, o, l, e, rfl, k2, k3, k4⟩
  · refine .inl (List.length_eq_zero_iff.1 ?_)
    rw [ints_len] at h1
    omega
  · exact .inr ⟨b, o, rfl, fun k x hk => Blk.cell ⟨e, k2⟩ (k4 k _ (ints_get hk))⟩
theorem Ints.hold {m : Mem} {A : Option Addr} {xs : List Int} (h : Ints m A xs) : xs.length * 1 = 0 ∨ ∃ p, A = some p ∧ m.holds p (ints xs) := by
  rcases h with rfl | ⟨b, i, rfl, h⟩
  · exact .inl rfl
  · refine .inr ⟨_, rfl, fun k v hk => ?_⟩
    rw [add_mk]
    simp only [ints, List.getElem?_map] at hk
    cases hx : xs[k]? with
    | none => rw [hx] at hk; cases hk
    | some x => rw [hx] at hk; cases hk; exact h k x hx
theorem Ints.up {m m' : Mem} {A : Option Addr} {xs : List Int} (h : Ints m A xs) (hm : m.le m') : Ints m' A xs :=
  h.imp_right fun ⟨b, i, h1, h2⟩ => ⟨b, i, h1, fun k x hk => Mem.le_cell hm (h2 k x hk)⟩
end Go.Proofs.Ytkkcdfnlmhmheaa
/- The table: Clear; how many places there are. -/
namespace Go.Proofs.Ytkkcdfnlmhmheaa
open Go Go.Mv
set_option maxHeartbeats 2000000
set_option maxRecDepth 10000
set_option linter.unusedVariables false
set_option linter.unusedSimpArgs false
attribute [local irreducible] FCalls IntKind.wrap bits Mem.set Mem.setCell Mem.setCells
theorem TM.len {m0 m : Mem} {p : Nat} {a : Abs} (h : TM m0 m p a) : (a.len = 0 ∨ ∃ k, k < 40 ∧ a.len = 2 ^ k) ∧ 2 * a.n ≤ a.len ∧ (a.n : Int) ≤ a.most ∧ a.most ≤ 1000000 := by
  obtain ⟨t, h⟩ := h
  have h1 := h.ok.many
  have h2 := h.ok.half
  have h3 := h.en
  have h4 := h.el
  have h5 := h.ok.full
  have h6 := h.em
  have h7 := h.ok.most1
  refine ⟨?_, by omega, by omega, by omega⟩
  rcases h.ok.ok with h8 | h8
  · left
    rw [← h4, h8]
    rfl
  · right
    rw [← h4]
    exact h8.pow
theorem zero_tab {m : Mem} {p : Nat} {t : Tab} (ht : TabAt m p t) (ho : TabOk t) (hne : t.sl ≠ []) :
    TabAt (m.setCells ⟨t.q, 0, none⟩ 0 (zerosOf tbl 106 t.sl.length).list) p { t with sl := List.replicate t.sl.length .zero } ∧ Keep [t.q] m (m.setCells ⟨t.q, 0, none⟩ 0 (zerosOf tbl 106 t.sl.length).list) ∧ Good (List.replicate t.sl.length .zero) := by
  obtain ⟨hq, hpq⟩ := ht.places hne
  have hg := ho.ok.resolve_left hne
  obtain ⟨k, hk, hn⟩ := hg.pow
  have hl : 0 < t.sl.length := hg.pos
  have hne' : List.replicate t.sl.length Slt.zero ≠ [] := by intro h; have := congrArg List.length h; simp at this; exact hne this
  refine ⟨⟨?_, fun _ => ⟨?_, hpq⟩, fun s hs => ?_, by simpa using ht.size, fun x hx => ⟨dom_setCells _ (ht.far x hx).1, (ht.far x hx).2.1, fun _ => (ht.far x hx).2.2 hne⟩⟩, Keep.cells (by simp), by rw [hn]; exact good_zero hk⟩
  · have h1 := ht.head.setCells_ne (c := t.q) (i := 0) (j := 0) (vs := (zerosOf tbl 106 t.sl.length).list) hpq
    have hs1 : Tab.sA { t with sl := List.replicate t.sl.length .zero } = some ⟨t.q, 0, none⟩ := if_neg hne'
    have hs2 : t.sA = some ⟨t.q, 0, none⟩ := if_neg hne
    rw [hs1, List.length_replicate]
    rw [hs2] at h1
    exact h1
  · have h1 := Blk.puts (i := 0) (zerosOf tbl 106 t.sl.length).list (j := 0) hq
    rw [Nat.zero_add, writeAt_full _ _ (by rw [cellsOf_zero, cellsOf_length, cellsOf_length, List.length_replicate])] at h1
    dsimp only
    rw [← cellsOf_zero]
    exact h1
  · rw [List.mem_replicate] at hs
    rw [hs.2]
    exact ⟨.inl rfl, .inl rfl, .inl rfl, by simp [Slt.zero], fun _ _ => .inl rfl⟩
theorem noHas0 {n : Nat} (ks : List Int) (v : Int) : ¬ Has (List.replicate n Slt.zero) ks v := by
  rintro ⟨s, hs, hu, _⟩
  rw [List.mem_replicate] at hs
  rw [hs.2] at hu
  cases hu
theorem clear_m {m0 m : Mem} {p : Nat} {a : Abs} (h : TM m0 m p a) :
    FCalls Try.prog 63 [.pointer (some ⟨p, 0, none⟩)] m fun v m' => v = .tuple #[] ∧ TM m0 m' p { a with f := fun _ => none, n := 0, len := if a.len > 16 then 0 else a.len } := by
  obtain ⟨t, h⟩ := h
  have ht := h.tab
  have ho := h.ok
  have hel := h.el
  refine fcalls_of_vc (T := tbl) (B := bodies) (pr := []) (DR := dr63) (args := [.v (.pointer (some ⟨p, 0, none⟩))]) tbl_ok bodies_ok mixed Try.func63 rfl (by decide +kernel) (by simp [Try.f63]) rfl ?_
  (conv => whnf)
  refine ⟨_, _, _, ht.head.cell (i := 2) rfl, ?_⟩
  (conv => whnf)
  refine ⟨fun h1 => ?_, fun q h1 h2 => ?_⟩
  · have hs : t.sl = [] := by
      rcases h1 with h1 | h1
      · exact Classical.byContradiction fun hne => by rw [Tab.sA, if_neg hne] at h1; cases h1
      · exact List.length_eq_zero_iff.1 h1
    (conv => whnf)
    refine ⟨_, _, _, ht.head.cell (i := 2) rfl, ?_⟩
    (conv => whnf)
    refine brk_false (by simp [hs]) ?_
    (conv => whnf)
    refine ⟨⟨⟨_, ht.head.cell (i := 3) rfl⟩, ht.head.fz⟩, ?_⟩
    (conv => whnf)
    obtain ⟨h3, h4⟩ := many_at (n := 0) ht
    have ha : a.len = 0 := by rw [← hel, hs]; rfl
    refine ⟨rfl, { t with many := 0 }, h3, ⟨.inl hs, by simp [hs, cnt], by simp [hs, cnt], fun s hs' => (by rw [hs] at hs'; cases hs'), ho.w0, ho.w1, ho.most0, ho.most1, ho.most0⟩, h.qp, h.fp, h.fq, h.keep.bads h4 (by simpa using h.fp), h.ew, h.em, rfl, by dsimp only; rw [hs, ha]; rfl, fun k x => ?_, h.eg⟩
    rw [hs]
    constructor
    · rintro ⟨s, hs', _⟩
      cases hs'
    · exact fun hh => by cases hh
  · have hne : t.sl ≠ [] := by rintro hs; rw [hs] at h2; simp at h2
    obtain ⟨hq, hpq⟩ := ht.places hne
    have hsA : t.sA = some ⟨t.q, 0, none⟩ := if_neg hne
    rw [hsA] at h1
    cases h1
    obtain ⟨hz1, hz2, hz3⟩ := zero_tab ht ho hne
    have hz := hz1.head
    have hk0 := h.keep.bads hz2 (by simpa using h.fq)
    have hhead := ht.head
    rw [hsA] at hhead
    refine ⟨hq.room (by rw [cellsOf_length, show (tbl.at 106).size = 4 from rfl]; omega), ?_⟩
    (conv => whnf)
    refine ⟨_, _, _, hz.cell (i := 2) rfl, ?_⟩
    (conv => whnf)
    refine brk_intro (fun h3 => ?_) (fun h3 => ?_)
    · have h3 : t.sl.length > 16 := by
        have : (16 : Int) < t.sl.length := by simpa using h3
        omega
      have hz' := hz.put (i := 2) (.slice none 0 0)
      (conv => whnf)
      refine ⟨⟨⟨_, hz.cell (i := 2) rfl⟩, hz.fz⟩, ?_⟩
      (conv => whnf)
      refine ⟨⟨⟨_, hz'.cell (i := 3) rfl⟩, hz'.fz⟩, ?_⟩
      (conv => whnf)
      refine ⟨rfl, ⟨t.w, t.most, [], p, 0, t.g⟩, ⟨hz'.put (i := 3) (.int .i64 0), fun hh => absurd rfl hh, fun s hs => (by cases hs), by simp, fun x hx => ⟨dom_setCell (dom_setCell (hz1.far x hx).1), (hz1.far x hx).2.1, fun h => absurd rfl h⟩⟩, ⟨.inl rfl, rfl, by simp [cnt], fun s hs => (by cases hs), ho.w0, ho.w1, ho.most0, ho.most1, ho.most0⟩, fun _ => rfl, h.fp, h.fp, ?_, h.ew, h.em, rfl, by dsimp only; rw [← hel, if_pos h3]; rfl, fun k x => ?_, h.eg⟩
      · exact hk0.bads (bad := [p]) ((Keep.cell (by simp)).trans (Keep.cell (by simp))) (by simpa using h.fp)
      · constructor
        · rintro ⟨s, hs', _⟩
          cases hs'
        · exact fun hh => by cases hh
    · have h3 : ¬ t.sl.length > 16 := by
        have : ¬ (16 : Int) < t.sl.length := by simpa using h3
        omega
      obtain ⟨hm1, hm2⟩ := many_at (n := 0) hz1
      (conv => whnf)
      refine ⟨⟨⟨_, hz.cell (i := 3) rfl⟩, hz.fz⟩, ?_⟩
      (conv => whnf)
      refine ⟨rfl, _, hm1, ⟨.inr hz3, by dsimp only; rw [cnt_zero]; rfl, by dsimp only; rw [cnt_zero]; omega, fun s hs hu => ?_, ho.w0, ho.w1, ho.most0, ho.most1, ho.most0⟩, ?_, h.fp, h.fq, ?_, h.ew, h.em, rfl, by dsimp only; rw [← hel, if_neg h3, List.length_replicate], fun k x => ?_, h.eg⟩
      · rw [List.mem_replicate] at hs
        rw [hs.2] at hu
        cases hu
      · intro hh
        have := congrArg List.length hh
        simp at this
        exact absurd this hne
      · exact hk0.bads hm2 (by simpa using h.fp)
      · constructor
        · exact fun hh => absurd hh (noHas0 k x)
        · exact fun hh => by cases hh
end Go.Proofs.Ytkkcdfnlmhmheaa
/- Table: a part of its own: the heads and places at p, the keys in memory that never changes. -/
namespace Go.Proofs.Ytkkcdfnlmhmheaa
open Go Go.Mv
set_option maxHeartbeats 1000000
set_option maxRecDepth 10000
set_option linter.unusedVariables false
set_option linter.unusedSimpArgs false
attribute [local irreducible] FCalls IntKind.wrap bits Mem.set Mem.setCell Mem.setCells YCalls
/-- What a table is, but for memory. -/
structure Ab (p : Nat) (t : Tab) (a : Abs) : Prop where
  ok : TabOk t
  qp : t.sl = [] → t.q = p
  ew : t.w = a.w
  em : t.most = a.most
  en : t.many = a.n
  el : t.sl.length = a.len
  map : ∀ k x, Has t.sl k x ↔ a.f k = some x
theorem Ab.withg {p : Nat} {t : Tab} {a : Abs} (h : Ab p t a) (g : Nat → Prop) : Ab p { t with g := g } a :=
  ⟨⟨h.ok.ok, h.ok.many, h.ok.half, h.ok.wid, h.ok.w0, h.ok.w1, h.ok.most0, h.ok.most1, h.ok.full⟩, h.qp, h.ew, h.em, h.en, h.el, h.map⟩
/-- K holds the keys. -/
structure TabIn (K M : Mem) (p : Nat) (a : Abs) (t : Tab) : Prop where
  head : Blk M p [.int .i64 t.w, .int .i64 t.most, .slice t.sA t.sl.length t.sl.length, .int .i64 t.many]
  places : t.sl ≠ [] → Blk M t.q (cellsOf t.sl) ∧ p ≠ t.q
  keys : ∀ s, s ∈ t.sl → Ints K s.kA s.ks ∧ s.ks.length < 2 ^ 62
  size : t.sl.length < 2 ^ 40
  kp0 : K p = none
  kq0 : K t.q = none
  ab : Ab p t a
def tb (K : Mem) (p : Nat) (a : Abs) : Asn := fun M => ∃ t, TabIn K M p a t
theorem TabIn.at {K M m : Mem} {p : Nat} {a : Abs} {t : Tab} (h : TabIn K M p a t) (hM : M.le m) (hK : K.le m) {g : Nat → Prop} (hg : ∀ b, g b → m b ≠ none ∧ M b = none ∧ K b = none) : TabAt m p { t with g := g } := by
  refine ⟨?_, fun hs => ?_, fun s hs => ⟨(h.keys s hs).1.up hK, (h.keys s hs).1.off_new h.kp0, (h.keys s hs).1.off_new h.kq0, (h.keys s hs).2, fun b hb => (h.keys s hs).1.off_new (hg b hb).2.2⟩, h.size, fun b hb => ⟨(hg b hb).1, ?_, fun hs => ?_⟩⟩
  · obtain ⟨e, he⟩ := h.head
    exact ⟨e, hM _ _ he⟩
  · obtain ⟨⟨e, he⟩, h2⟩ := h.places hs
    exact ⟨⟨e, hM _ _ he⟩, h2⟩
  · exact Ne.symm (h.head.ne (hg b hb).2.1)
  · exact Ne.symm ((h.places hs).1.ne (hg b hb).2.1)
/-- A table with what stands beside it. -/
structure TabBy (m mr K : Mem) (p : Nat) (t : Tab) : Prop where
  tab : TabAt m p t
  eg : ∀ b, t.g b ↔ mr b ≠ none
  le : K.le m
  rle : mr.le m
  ap : K.apart mr
  kp0 : K p = none
  kq0 : K t.q = none
  rp0 : mr p = none
  rq0 : mr t.q = none
theorem tb_open {K m : Mem} {p : Nat} {a : Abs} {R : List Asn} (h : Sep (tb K p a :: kp K :: R) m) : ∃ mr t, TabBy m mr K p t ∧ Ab p t a ∧ Sep R mr := by
  obtain ⟨m1, m2, k1, k2, k3, ⟨t, hT⟩, m3, mr, g1, g2, g3, g4, g5⟩ := h
  have hK3 : K.le m3 := g4
  have hK : K.le m := Mem.le_trans hK3 (Mem.le_trans g2 k3)
  have hr : mr.le m := Mem.le_trans g3 k3
  have hap1 : ∀ b, mr b ≠ none → m1 b = none := fun b hb => by
    rcases k1 b with h | h
    · exact h
    · exact absurd (Mem.le_none g3 h) hb
  have hap2 : ∀ b, mr b ≠ none → K b = none := fun b hb => by
    rcases g1 b with h | h
    · exact Mem.le_none hK3 h
    · exact absurd h hb
  refine ⟨mr, { t with g := fun b => mr b ≠ none }, ⟨hT.at k2 hK fun b hb => ⟨Mem.le_dom hr hb, hap1 b hb, hap2 b hb⟩, fun _ => Iff.rfl, hK, hr, fun b => ?_, hT.kp0, hT.kq0, ?_, ?_⟩, hT.ab.withg _, g5⟩
  · by_cases hb : mr b = none
    · exact .inr hb
    · exact .inl (hap2 b hb)
  · apply Classical.byContradiction
    intro hb
    exact hT.head.ne (hap1 p hb) rfl
  · by_cases hs : t.sl = []
    · show mr t.q = none
      rw [hT.ab.qp hs]
      apply Classical.byContradiction
      intro hb
      exact hT.head.ne (hap1 p hb) rfl
    · apply Classical.byContradiction
      intro hb
      exact (hT.places hs).1.ne (hap1 t.q hb) rfl
theorem tb_close {K m mr : Mem} {p : Nat} {a : Abs} {t : Tab} {R : List Asn} (h : TabBy m mr K p t) (ha : Ab p t a) (hR : Sep R mr) : ∃ K', K.le K' ∧ Sep (tb K' p a :: kp K' :: R) m := by
  obtain ⟨o1, ho1⟩ : ∃ m1 : Mem, m1 = fun b => if b = p ∨ b = t.q then m b else none := ⟨_, rfl⟩
  obtain ⟨K', hK'⟩ : ∃ K' : Mem, K' = fun b => if b = p ∨ b = t.q ∨ mr b ≠ none then none else m b := ⟨_, rfl⟩
  have hKK : K.le K' := fun b o hb => by
    rw [hK']
    have h1 : ¬ (b = p ∨ b = t.q ∨ mr b ≠ none) := by
      rintro (rfl | rfl | h1)
      · rw [h.kp0] at hb; cases hb
      · rw [h.kq0] at hb; cases hb
      · rcases h.ap b with h2 | h2
        · rw [h2] at hb; cases hb
        · exact h1 h2
    simp only [if_neg h1]
    exact h.le b o hb
  have hap : K'.apart mr := fun b => by
    by_cases hb : mr b = none
    · exact .inr hb
    · left
      rw [hK']
      simp only
      rw [if_pos (.inr (.inr hb))]
  have hKm : ∀ b o, K' b = some o → m b = some o := fun b o hk => by
    rw [hK'] at hk
    simp only at hk
    split at hk
    · cases hk
    · exact hk
  have hoff : ∀ b, ¬ (b = p ∨ b = t.q ∨ mr b ≠ none) → K' b = m b := fun b hb => by rw [hK']; simp only; rw [if_neg hb]
  refine ⟨K', hKK, o1, K'.join mr, fun b => ?_, fun b o hb => ?_, fun b o hb => ?_, ⟨{ t with g := fun _ => False }, ?_⟩, K', mr, hap, Mem.le_join_left, Mem.le_join_right hap, Mem.le_refl _, hR⟩
  · by_cases hb : b = p ∨ b = t.q
    · right
      have : K' b = none := by rw [hK']; simp only; rw [if_pos (by rcases hb with hb | hb <;> simp [hb])]
      simp only [Mem.join, this]
      rcases hb with rfl | rfl
      · rw [h.rp0]; rfl
      · rw [h.rq0]; rfl
    · left
      rw [ho1]
      simp only [if_neg hb]
  · rw [ho1] at hb
    simp only at hb
    split at hb
    · exact hb
    · cases hb
  · simp only [Mem.join] at hb
    cases hk : K' b with
    | none =>
      rw [hk] at hb
      exact h.rle b o (by simpa using hb)
    | some o' =>
      rw [hk] at hb
      have : o' = o := by simpa using hb
      exact hKm b o (by rw [hk, this])
  · refine ⟨?_, fun hs => ?_, fun s hs => ?_, h.tab.size, ?_, ?_, ha.withg _⟩
    · obtain ⟨e, he⟩ := h.tab.head
      exact ⟨e, by rw [ho1]; simp only; rw [if_pos (.inl trivial)]; exact he⟩
    · obtain ⟨⟨e, he⟩, h2⟩ := h.tab.places hs
      exact ⟨⟨e, by rw [ho1]; simp only; rw [if_pos (.inr trivial)]; exact he⟩, h2⟩
    · obtain ⟨g1, g2, g3, g4, g5⟩ := h.tab.keys s hs
      refine ⟨?_, g4⟩
      rcases g1 with g1 | ⟨b, i, g6, g7⟩
      · exact .inl g1
      by_cases hne : s.ks = []
      · exact .inl hne
      refine .inr ⟨b, i, g6, fun k x hx => ?_⟩
      have hb : K' b = m b := hoff b (by
        rintro (rfl | rfl | h1)
        · rcases g2 with g2 | g2
          · exact hne g2
          · exact g2 _ g6 rfl
        · rcases g3 with g3 | g3
          · exact hne g3
          · exact g3 _ g6 rfl
        · rcases g5 b ((h.eg b).2 h1) with g5 | g5
          · exact hne g5
          · exact g5 _ g6 rfl)
      have := g7 k x hx
      unfold Mem.cell at this ⊢
      simp only [hb] at this ⊢
      exact this
    · rw [hK']; simp only; rw [if_pos (.inl trivial)]
    · rw [hK']; simp only; rw [if_pos (.inr (.inl trivial))]
theorem TabBy.step {m m' mr K : Mem} {p : Nat} {t t' : Tab} (h : TabBy m mr K p t) (ht : TabAt m' p t') (hg : t'.g = t.g) (hk : Keep [p, t.q] m m') (hq : t'.q = t.q ∨ t'.q = p ∨ m t'.q = none) : TabBy m' mr K p t' := by
  have le : ∀ X : Mem, X p = none → X t.q = none → X.le m → X.le m' := fun X h1 h2 h3 b o hb => hk b o (h3 b o hb) (by
    simp only [List.mem_cons, List.not_mem_nil, or_false, not_or]
    exact ⟨fun e => (by rw [e, h1] at hb; cases hb), fun e => (by rw [e, h2] at hb; cases hb)⟩)
  have q0 : ∀ X : Mem, X p = none → X t.q = none → X.le m → X t'.q = none := fun X h0 h1 h2 => by
    rcases hq with hq | hq | hq
    · rw [hq]; exact h1
    · rw [hq]; exact h0
    · exact Mem.le_none h2 hq
  exact ⟨ht, by rw [hg]; exact h.eg, le K h.kp0 h.kq0 h.le, le mr h.rp0 h.rq0 h.rle, h.ap, h.kp0, q0 K h.kp0 h.kq0 h.le, h.rp0, q0 mr h.rp0 h.rq0 h.rle⟩
theorem Ab.some_iff {p : Nat} {a : Abs} {t : Tab} (h : Ab p t a) {ks : List Int} : (a.f ks).isSome = true ↔ ∃ v, Has t.sl ks v := by
  constructor
  · intro hc
    cases hf : a.f ks with
    | none => rw [hf] at hc; cases hc
    | some v => exact ⟨v, (h.map ks v).2 hf⟩
  · rintro ⟨v, hv⟩
    rw [(h.map ks v).1 hv]
    rfl
theorem put_ab {p : Nat} {t t' : Tab} {a : Abs} {ks : List Int} {val code : Int} (h : Ab p t a) (ho : TabOk t') (hw : t'.w = t.w) (hm : t'.most = t.most) (hr : PutR t ks val code t') : ∃ a', Ab p t' a' ∧ putA a ks val code a' := by
  have hsome := h.some_iff (ks := ks)
  have hmany := h.ok.many
  have hcnt : cnt t.sl = a.n := by have := h.en; omega
  have hlen := h.el
  rcases hr with ⟨h1, rfl, rfl⟩ | ⟨h1, h2, rfl, h4, h5, h6⟩ | ⟨h1, h2, h3, rfl, rfl⟩ | ⟨h1, h2, h3, rfl, h5, h6, h7⟩
  · refine ⟨a, h, rfl, rfl, ?_⟩
    rw [if_pos (by rw [← h.ew]; exact h1)]
    exact ⟨rfl, rfl⟩
  · refine ⟨{ a with f := updF a.f ks (some val) }, ⟨ho, ?_, hw.trans h.ew, hm.trans h.em, h4.trans h.en, h5.trans h.el, map_upd h.map h6⟩, rfl, rfl, ?_⟩
    · intro he
      rw [he] at h5
      obtain ⟨v0, s, hs, _⟩ := h2
      rw [List.length_eq_zero_iff.1 h5.symm] at hs
      cases hs
    · rw [if_neg (by rw [← h.ew]; simpa using h1), if_pos (hsome.2 h2)]
      exact ⟨rfl, rfl, rfl, rfl⟩
  · refine ⟨a, h, rfl, rfl, ?_⟩
    rw [if_neg (by rw [← h.ew]; simpa using h1), if_neg (fun hc => by obtain ⟨v, hv⟩ := hsome.1 hc; exact h2 v hv), if_pos (by rw [← h.em, ← h.en]; exact h3)]
    exact ⟨rfl, rfl⟩
  · refine ⟨{ a with f := updF a.f ks (some val), n := a.n + 1, len := t'.sl.length }, ⟨ho, ?_, hw.trans h.ew, hm.trans h.em, by rw [h5, h.en]; simp, rfl, map_upd h.map h6⟩, rfl, rfl, ?_⟩
    · intro he
      have := (h6 ks val).2 (.inl ⟨rfl, rfl⟩)
      obtain ⟨s, hs, _⟩ := this
      rw [he] at hs
      cases hs
    · rw [if_neg (by rw [← h.ew]; simpa using h1), if_neg (fun hc => by obtain ⟨v, hv⟩ := hsome.1 hc; exact h2 v hv), if_neg (by rw [← h.em, ← h.en]; omega)]
      refine ⟨rfl, rfl, rfl, ?_⟩
      unfold lenR
      dsimp only
      rw [← hcnt, ← hlen]
      exact h7
theorem put_t {K m : Mem} {p : Nat} {a : Abs} {R : List Asn} {A : Option Addr} {ks : List Int} {c : Nat} (val : Int) (h : Sep (tb K p a :: kp K :: R) m) (hI : ∀ mr, Sep R mr → Ints mr A ks) :
    FCalls Try.prog 54 [.pointer (some ⟨p, 0, none⟩), .slice A ks.length c, .int .i64 val] m fun v m' => ∃ code a' K', v = .int .i64 code ∧ putA a ks val code a' ∧ K.le K' ∧ Sep (tb K' p a' :: kp K' :: R) m' := by
  obtain ⟨mr, t, hT, ha, hR⟩ := tb_open h
  have hA := hI mr hR
  refine FCalls.mono (put_c val hT.tab ha.ok (hA.up hT.rle) (hA.off_new hT.rp0) (hA.off_new hT.rq0)) ?_
  rintro v m' ⟨code, t', rfl, ht, ho, hw, ⟨hm, hg⟩, hk, hq, hr⟩
  obtain ⟨a', ha', hp⟩ := put_ab ha ho hw hm hr
  obtain ⟨K', h1, h2⟩ := tb_close (hT.step ht hg hk (hq.imp_right .inr)) ha' hR
  exact ⟨code, a', K', rfl, hp, h1, h2⟩
theorem get_t {K m : Mem} {p : Nat} {a : Abs} {R : List Asn} {A : Option Addr} {ks : List Int} {c : Nat} (h : Sep (tb K p a :: kp K :: R) m) (hI : Ints m A ks) :
    FCalls Try.prog 47 [.pointer (some ⟨p, 0, none⟩), .slice A ks.length c] m fun v m' => v = .tuple #[.int .i64 ((a.f ks).getD 0), .bool (a.f ks).isSome] ∧ m' = m := by
  obtain ⟨mr, t, hT, ha, hR⟩ := tb_open h
  refine FCalls.mono (get_c hT.tab ha.ok hI) ?_
  rintro v m' ⟨x, b, rfl, rfl, ⟨rfl, h1⟩ | ⟨rfl, rfl, h1⟩⟩
  · rw [(ha.map ks x).1 h1]
    exact ⟨rfl, rfl⟩
  · have : a.f ks = none := by
      cases hf : a.f ks with
      | none => rfl
      | some v => exact absurd ((ha.map ks v).2 hf) (h1 v)
    rw [this]
    exact ⟨rfl, rfl⟩
theorem drop_ab {p : Nat} {t t' : Tab} {a : Abs} {ks : List Int} {b : Bool} (h : Ab p t a) (ho : TabOk t') (hw : t'.w = t.w) (hm : t'.most = t.most) (hq : t'.q = t.q) (hl : t'.sl.length = t.sl.length)
    (hr : (b = true ∧ (∃ v0, Has t.sl ks v0) ∧ t'.many = t.many - 1 ∧ ∀ k x, Has t'.sl k x ↔ k ≠ ks ∧ Has t.sl k x) ∨ (b = false ∧ (∀ v0, ¬ Has t.sl ks v0) ∧ t' = t)) :
    b = (a.f ks).isSome ∧ Ab p t' { a with f := updF a.f ks none, n := a.n - (if (a.f ks).isSome then 1 else 0) } ∧ ((a.f ks).isSome = true → 0 < a.n) := by
  have hsome := h.some_iff (ks := ks)
  have hmany := h.ok.many
  have hmany' := ho.many
  have hen := h.en
  rcases hr with ⟨rfl, h1, h2, h3⟩ | ⟨rfl, h1, rfl⟩
  · have h4 := hsome.2 h1
    obtain ⟨v0, s, hs, hsu, hsk, hsv⟩ := h1
    have hpos : 0 < cnt t.sl := List.countP_pos_iff.2 ⟨s, hs, hsu⟩
    rw [h4]
    refine ⟨rfl, ⟨ho, ?_, hw.trans h.ew, hm.trans h.em, ?_, hl.trans h.el, fun k x => ?_⟩, fun _ => by omega⟩
    · intro he
      rw [he] at hl
      rw [List.length_eq_zero_iff.1 hl.symm] at hs
      cases hs
    · dsimp only
      rw [if_pos rfl]
      omega
    · rw [h3, h.map]
      dsimp only [updF]
      by_cases hk' : k = ks
      · rw [if_pos hk']
        constructor
        · exact fun hh => absurd hk' hh.1
        · exact fun hh => by cases hh
      · rw [if_neg hk']
        exact ⟨fun hh => hh.2, fun hh => ⟨hk', hh⟩⟩
  · have h4 : (a.f ks).isSome = false := by
      cases hc : (a.f ks).isSome with
      | false => rfl
      | true => obtain ⟨v, hv⟩ := hsome.1 hc; exact absurd hv (h1 v)
    have h5 : a.f ks = none := by simpa using h4
    rw [h4]
    refine ⟨rfl, ⟨ho, h.qp, h.ew, h.em, by simpa using h.en, h.el, fun k x => ?_⟩, fun hc => by cases hc⟩
    rw [h.map]
    dsimp only [updF]
    by_cases hk' : k = ks
    · rw [if_pos hk', hk', h5]
    · rw [if_neg hk']
theorem clear_t {K m : Mem} {p : Nat} {a : Abs} {R : List Asn} (h : Sep (tb K p a :: kp K :: R) m) :
    FCalls Try.prog 63 [.pointer (some ⟨p, 0, none⟩)] m fun v m' => v = .tuple #[] ∧ ∃ K', K.le K' ∧ Sep (tb K' p { a with f := fun _ => none, n := 0, len := if a.len > 16 then 0 else a.len } :: kp K' :: R) m' := by
  obtain ⟨mr, t, hT, h, hR⟩ := tb_open h
  have ht := hT.tab
  have ho := h.ok
  have hel := h.el
  have fin : ∀ {m' : Mem} {t' : Tab}, TabAt m' p t' → t'.g = t.g → Keep [p, t.q] m m' → (t'.q = t.q ∨ t'.q = p ∨ m t'.q = none) → Ab p t' { a with f := fun _ => none, n := 0, len := if a.len > 16 then 0 else a.len } →
      Value.tuple #[] = Value.tuple #[] ∧ ∃ K', K.le K' ∧ Sep (tb K' p { a with f := fun _ => none, n := 0, len := if a.len > 16 then 0 else a.len } :: kp K' :: R) m' := fun h1 h2 h3 h4 h5 => by
    obtain ⟨K', g1, g2⟩ := tb_close (hT.step h1 h2 h3 h4) h5 hR
    exact ⟨rfl, K', g1, g2⟩
  refine fcalls_of_vc (T := tbl) (B := bodies) (pr := []) (DR := dr63) (args := [.v (.pointer (some ⟨p, 0, none⟩))]) tbl_ok bodies_ok mixed Try.func63 rfl (by decide +kernel) (by simp [Try.f63]) rfl ?_
  (conv => whnf)
  refine ⟨_, _, _, ht.head.cell (i := 2) rfl, ?_⟩
  (conv => whnf)
  refine ⟨fun h1 => ?_, fun q h1 h2 => ?_⟩
  · have hs : t.sl = [] := by
      rcases h1 with h1 | h1
      · exact Classical.byContradiction fun hne => by rw [Tab.sA, if_neg hne] at h1; cases h1
      · exact List.length_eq_zero_iff.1 h1
    (conv => whnf)
    refine ⟨_, _, _, ht.head.cell (i := 2) rfl, ?_⟩
    (conv => whnf)
    refine brk_false (by simp [hs]) ?_
    (conv => whnf)
    refine ⟨⟨⟨_, ht.head.cell (i := 3) rfl⟩, ht.head.fz⟩, ?_⟩
    (conv => whnf)
    obtain ⟨h3, h4⟩ := many_at (n := 0) ht
    have ha : a.len = 0 := by rw [← hel, hs]; rfl
    refine fin (t' := { t with many := 0 }) h3 rfl (h4.more (by simp)) (.inl rfl) ⟨⟨.inl hs, by simp [hs, cnt], by simp [hs, cnt], fun s hs' => (by rw [hs] at hs'; cases hs'), ho.w0, ho.w1, ho.most0, ho.most1, ho.most0⟩, h.qp, h.ew, h.em, rfl, by dsimp only; rw [hs, ha]; rfl, fun k x => ?_⟩
    rw [hs]
    constructor
    · rintro ⟨s, hs', _⟩
      cases hs'
    · exact fun hh => by cases hh
  · have hne : t.sl ≠ [] := by rintro hs; rw [hs] at h2; simp at h2
    obtain ⟨hq, hpq⟩ := ht.places hne
    have hsA : t.sA = some ⟨t.q, 0, none⟩ := if_neg hne
    rw [hsA] at h1
    cases h1
    obtain ⟨hz1, hz2, hz3⟩ := zero_tab ht ho hne
    have hz := hz1.head
    have hhead := ht.head
    rw [hsA] at hhead
    refine ⟨hq.room (by rw [cellsOf_length, show (tbl.at 106).size = 4 from rfl]; omega), ?_⟩
    (conv => whnf)
    refine ⟨_, _, _, hz.cell (i := 2) rfl, ?_⟩
    (conv => whnf)
    refine brk_intro (fun h3 => ?_) (fun h3 => ?_)
    · have h3 : t.sl.length > 16 := by
        have : (16 : Int) < t.sl.length := by simpa using h3
        omega
      have hz' := hz.put (i := 2) (.slice none 0 0)
      (conv => whnf)
      refine ⟨⟨⟨_, hz.cell (i := 2) rfl⟩, hz.fz⟩, ?_⟩
      (conv => whnf)
      refine ⟨⟨⟨_, hz'.cell (i := 3) rfl⟩, hz'.fz⟩, ?_⟩
      (conv => whnf)
      refine fin (t' := ⟨t.w, t.most, [], p, 0, t.g⟩) ⟨hz'.put (i := 3) (.int .i64 0), fun hh => absurd rfl hh, fun s hs => (by cases hs), by simp, fun x hx => ⟨dom_setCell (dom_setCell (hz1.far x hx).1), (hz1.far x hx).2.1, fun h => absurd rfl h⟩⟩ rfl ?_ (.inr (.inl rfl)) ⟨⟨.inl rfl, rfl, by simp [cnt], fun s hs => (by cases hs), ho.w0, ho.w1, ho.most0, ho.most1, ho.most0⟩, fun _ => rfl, h.ew, h.em, rfl, by dsimp only; rw [← hel, if_pos h3]; rfl, fun k x => ?_⟩
      · exact (hz2.more (by simp)).trans ((Keep.cell (by simp)).trans (Keep.cell (by simp)))
      · constructor
        · rintro ⟨s, hs', _⟩
          cases hs'
        · exact fun hh => by cases hh
    · have h3 : ¬ t.sl.length > 16 := by
        have : ¬ (16 : Int) < t.sl.length := by simpa using h3
        omega
      obtain ⟨hm1, hm2⟩ := many_at (n := 0) hz1
      (conv => whnf)
      refine ⟨⟨⟨_, hz.cell (i := 3) rfl⟩, hz.fz⟩, ?_⟩
      (conv => whnf)
      refine fin hm1 rfl ?_ (.inl rfl) ⟨⟨.inr hz3, by dsimp only; rw [cnt_zero]; rfl, by dsimp only; rw [cnt_zero]; omega, fun s hs hu => ?_, ho.w0, ho.w1, ho.most0, ho.most1, ho.most0⟩, ?_, h.ew, h.em, rfl, by dsimp only; rw [← hel, if_neg h3, List.length_replicate], fun k x => ?_⟩
      · exact (hz2.more (by simp)).trans (hm2.more (by simp))
      · rw [List.mem_replicate] at hs
        rw [hs.2] at hu
        cases hu
      · intro hh
        have := congrArg List.length hh
        simp at this
        exact absurd this hne
      · constructor
        · exact fun hh => absurd hh (noHas0 k x)
        · exact fun hh => by cases hh
theorem new_t {K m : Mem} {w most : Int} {R : List Asn} (h : Sep R m) (hK : K.le m) (hw : 0 ≤ w) (hw1 : w ≤ 128) (hm : 0 ≤ most) (hm1 : most ≤ 1000000) :
    FCalls Try.prog 26 [.int .i64 w, .int .i64 most] m fun v m' => ∃ p, v = .tuple #[.pointer (some ⟨p, 0, none⟩), .int .i64 0] ∧ Sep (tb K p ⟨w, most, fun _ => none, 0, 0⟩ :: R) m' := by
  refine FCalls.mono (new_c (g := fun _ => False) (fun b h => h.elim) hw hw1 hm hm1) ?_
  rintro v m' ⟨p, rfl, hp, ht, hk⟩
  obtain ⟨e, he⟩ := ht.head
  have hle : m.le m' := fun b o hb => hk b o hb (by simp)
  refine ⟨p, rfl, fun b => if b = p then m' b else none, m, fun b => ?_, fun b o hb => ?_, hle, ⟨⟨w, most, [], p, 0, fun _ => False⟩, ⟨⟨e, by simp only [if_true]; exact he⟩, fun hh => absurd rfl hh, fun s hs => (by cases hs), by simp, Mem.le_none hK hp, Mem.le_none hK hp,
    ⟨⟨.inl rfl, rfl, by simp [cnt], fun s hs => (by cases hs), hw, hw1, hm, hm1, hm⟩, fun _ => rfl, rfl, rfl, rfl, rfl, fun k x => ⟨fun ⟨s, hs, _⟩ => (by cases hs), fun hh => by cases hh⟩⟩⟩⟩, h⟩
  · by_cases hb : b = p
    · exact .inr (hb ▸ hp)
    · exact .inl (if_neg hb)
  · simp only at hb
    split at hb
    · exact hb
    · cases hb
theorem IterS.sub {P : Program} {f : Nat} {first cap : List Value} {A A' : Asn} {I I2 : Mem → Prop} {N : Nat} {R : Nat → List Value → List Asn → Prop} (h : IterS P f first cap A A' I N R) (hI : ∀ m, I2 m → I m) : IterS P f first cap A A' I2 N R :=
  fun l J Q Rs m h1 h2 h3 h4 => h l J Q Rs m h1 h2 (fun i m' hJ => hI m' (h3 i m' hJ)) h4
end Go.Proofs.Ytkkcdfnlmhmheaa
/- Mv: operations that are asked of as the machine does them: a text gone over, conversions, bytes behind a slice. -/
namespace Go.Mv
open Go
section
variable {P : Program} {m : Mem} {K : Value → Mem → Prop}
theorem RunP.pure {s : Sem Value} {v : Value} (h : ∀ w, m.sub w → s.run P w = .ok v w) (hk : K v m) : RunP P s m K := fun w hw => ⟨v, w, m, h w hw, hk, Frame.refl hw⟩
theorem NextP.pure {s : Sem Next} {v : Value} (h : ∀ w, m.sub w → s.run P w = .ok (.value v) w) (hk : K v m) : NextP P s m K := fun w hw => ⟨v, w, m, h w hw, hk, Frame.refl hw⟩
theorem sub_fresh {w : World} (hw : m.sub w) : m w.heap.size = none := by
  cases hm : m w.heap.size with
  | none => rfl
  | some o => exact absurd (Mem.sub_lt hw (b := w.heap.size) (by rw [hm]; simp)) (Nat.lt_irrefl _)
theorem range_str {t : TypeId} (ht : P.underlying t = some .string) {s : ByteArray} (h : ∀ (b : Nat) (m2 : Mem), m b = none → m2 = m.set b (.stringIter s 0) → K (.pointer (some ⟨b, 0, none⟩)) m2) : RunP P (Instr.range t (.string s)) m K :=
  fun w hw => ⟨_, _, _, run_range_string w t s ht, h _ _ (sub_fresh hw) rfl, Frame.alloc (Frame.refl hw) _⟩
theorem Frame.setObj {w : World} (hw : m.sub w) {b : Nat} {o : Obj} (hb : m b ≠ none) : Frame m w (m.set b o) { w with heap := w.heap.setIfInBounds b o } := by
  refine ⟨rfl, ⟨rfl, Nat.le_refl _⟩, rfl, by simp, fun c o' hc => ?_, fun c hc hn => ?_, fun c hc => ?_⟩
  · have hlt := Mem.sub_lt hw hb
    by_cases hcb : c = b
    · subst hcb
      simp only [Mem.set, if_true] at hc
      show (w.heap.setIfInBounds c o)[c]? = _
      rw [Array.getElem?_setIfInBounds_self_of_lt hlt, hc]
    · rw [Mem.set_ne hcb] at hc
      show (w.heap.setIfInBounds b o)[c]? = _
      rw [Array.getElem?_setIfInBounds_ne (Ne.symm hcb)]
      exact hw c o' hc
  · have hcb : b ≠ c := by rintro rfl; exact hb hn
    show (w.heap.setIfInBounds b o)[c]? = _
    rw [Array.getElem?_setIfInBounds_ne hcb]
  · by_cases hcb : c = b
    · subst hcb; exact .inl hb
    · rw [Mem.set_ne hcb] at hc; exact .inl hc
theorem next_str {b pos : Nat} {s : ByteArray} {ty : TypeId} (hb : m b = some (.stringIter s pos))
    (h1 : pos < s.size → ∀ m2 : Mem, m2 = m.set b (.stringIter s (pos + (Utf8.decode s pos).2)) → K (.tuple #[.bool true, .int .i64 ((pos : Nat) : Int), .int .i32 (((Utf8.decode s pos).1 : Nat) : Int)]) m2)
    (h2 : ¬ pos < s.size → K (.tuple #[.bool false]) m) : RunP P (Instr.next (.pointer (some ⟨b, 0, none⟩)) true ty) m K := by
  intro w hw
  have hh := hw b _ hb
  by_cases hp : pos < s.size
  · refine ⟨_, _, _, ?_, h1 hp _ rfl, Frame.setObj hw (by rw [hb]; simp)⟩
    simp [Instr.next, getObj, setObj, Sem.run, hh, hp, goInt, Result.andThen]
  · refine ⟨_, w, m, ?_, h2 hp, Frame.refl hw⟩
    simp [Instr.next, getObj, Sem.run, hh, hp]
theorem conv_str {s d : TypeId} {k : IntKind} {n : Int} (hs : (P.underlying s).isSome = true) (hd : P.underlying d = some .string) (h : K (.string (Utf8.encode n)) m) : RunP P (Go.convert s d (.int k n)) m K :=
  RunP.pure (fun w _ => run_convert_int_string w s d k n hs hd) h
end
theorem Sep.free {A : Asn} {R : List Asn} {m : Mem} (h : Sep R m) (hA : A Mem.empty) : Sep (A :: R) m := ⟨Mem.empty, m, fun _ => .inl rfl, fun _ _ hh => (by cases hh), Mem.le_refl _, hA, h⟩
/-- What an append of a text asks. -/
def AppOkS (T : Tbl) (e : Nat) (m : Mem) (A : Option Addr) (n c j : Nat) (news olds : List Value) : Prop :=
  news.length = j * (T.at e).size ∧
  (n + j ≤ c → A = none ∨ ∃ p, A = some p ∧ m.room (p.add (n * (T.at e).size)) (j * (T.at e).size) ∧ oneCells news = true) ∧
  (c < n + j → Nat.blt 0 (T.at e).bytes = true ∧ Builtin.nextslicecap (n + j) c * (T.at e).bytes ≤ 2 ^ 48 ∧ olds.length = n * (T.at e).size ∧ ((n * (T.at e).size = 0 ∧ A = none) ∨ ∃ p, A = some p ∧ m.holds p olds))
theorem Sep.appS {T : Tbl} {e : Nat} {L : List Asn} {m : Mem} (h : Sep L m) (j : Nat) {A : Option Addr} {n c : Nat} {vs : List Value} (hj : L[j]? = some (sl A n c (T.at e).size vs)) {k : Nat} {news : List Value}
    (hn : news.length = k * (T.at e).size) (one : oneCells news = true) (hbytes : Nat.blt 0 (T.at e).bytes = true) (hcap : 2 * (n + k) * (T.at e).bytes ≤ 2 ^ 48) (hz : (T.at e).zero.list.length = (T.at e).size) :
    AppOkS T e m A n c k news vs ∧ ∀ A' c' m2, AppR T e m A n c k news vs A' c' m2 → Sep (L.set j (sl A' (n + k) c' (T.at e).size (vs ++ news))) m2 := by
  have hA := h.asn j hj
  have hlen := hA.1
  have hnc := hA.2.1
  refine ⟨⟨hn, fun hle => ?_, fun hlt => ⟨hbytes, ?_, hlen, sl_olds hA⟩⟩, fun A' c' m2 hR => ?_⟩
  · obtain ⟨h1, h2, h3⟩ := hA
    rcases h3 with ⟨rfl, rfl⟩ | ⟨b, o, l, e', rfl, k2, k3, k4⟩
    · exact .inl rfl
    · refine .inr ⟨_, rfl, ?_, one⟩
      rw [add_mk]
      refine Blk.room ⟨e', k2⟩ ?_
      have := Nat.mul_le_mul_right (T.at e).size hle
      rw [Nat.add_mul] at this
      omega
  · exact Nat.le_trans (Nat.mul_le_mul_right _ (nextslicecap_le hlt)) hcap
  · rcases hR with ⟨hle, rfl, rfl, hR⟩ | ⟨hlt, b, hcap', hb, rfl, rfl⟩
    · rcases hR with ⟨hA0, rfl⟩ | ⟨p, hp, rfl⟩
      · refine h.turn j hj fun m1 hm g => ?_
        obtain ⟨g1, g2, g3⟩ := g
        rcases g3 with ⟨_, g4⟩ | ⟨b', o', l', e', hh, _⟩
        · have hk0 : k = 0 := by omega
          subst hk0
          have : news = [] := List.length_eq_zero_iff.1 (by rw [hn, Nat.zero_mul])
          subst this
          exact ⟨by simpa using g1, by omega, .inl ⟨hA0, g4⟩⟩
        · rw [hA0] at hh; cases hh
      · obtain ⟨h1, h2, h3⟩ := hA
        rcases h3 with ⟨hh, _⟩ | ⟨b, o, l, e', hh, k2, k3, k4⟩
        · rw [hh] at hp; cases hp
        · rw [hh] at hp
          cases hp
          subst hh
          rw [add_mk]
          refine h.puts j hj (fun m1 hm g => ?_) fun m1 hm g => ?_
          · obtain ⟨g1, g2, g3⟩ := g
            rcases g3 with ⟨hh, _⟩ | ⟨b', o', l', e', hh, q2, _⟩
            · cases hh
            · cases hh
              rw [q2]
              simp
          · obtain ⟨g1, g2, g3⟩ := g
            rcases g3 with ⟨hh, _⟩ | ⟨b', o', l', e', hh, q2, q3, q4⟩
            · cases hh
            · cases hh
              have h5 := Nat.mul_le_mul_right (T.at e).size hle
              rw [Nat.add_mul] at h5
              obtain ⟨e2, h4⟩ := Blk.puts (i := o + n * (T.at e).size) (j := 0) news (m := m1) (b := b) (l := l') ⟨e', q2⟩
              refine ⟨by rw [List.length_append, g1, hn, Nat.add_mul], hle, .inr ⟨b, o, _, e2, rfl, h4, by rw [writeAt_len]; exact q3, fun i u hu => ?_⟩⟩
              rw [Nat.add_zero, writeAt_get _ _ _ _ (by omega)]
              rcases Nat.lt_or_ge i vs.length with hi | hi
              · rw [List.getElem?_append_left hi] at hu
                rw [if_neg (by omega)]
                exact q4 i u hu
              · rw [List.getElem?_append_right hi] at hu
                have := (List.getElem?_eq_some_iff.1 hu).1
                rw [if_pos (by omega), show o + i - (o + n * (T.at e).size) = i - vs.length by omega]
                exact hu
    · have h1 := (h.new (e := e) (l := vs ++ news ++ (zerosOf T e (c' - (n + k))).list) hb).drop (j + 1)
      have h2 : Sep (pt b (vs ++ news ++ (zerosOf T e (c' - (n + k))).list) :: L.eraseIdx j) (m.set b (.cells (vs ++ news ++ (zerosOf T e (c' - (n + k))).list).toArray e (0, 0))) := h1
      rw [← eraseIdx_insert hj]
      refine Sep.back (h2.turn 0 rfl fun m1 hm ⟨e', g⟩ => ?_) (len_erase hj)
      refine ⟨by rw [List.length_append, hlen, hn, Nat.add_mul], hcap', .inr ⟨b, 0, _, e', rfl, g, ?_, fun i u hu => ?_⟩⟩
      · rw [List.length_append, List.length_append, hlen, hn, zeros_len hz, ← Nat.add_mul, ← Nat.add_mul]
        rw [Nat.zero_add]
        exact Nat.mul_le_mul_right _ (by omega)
      · rw [Nat.zero_add, List.getElem?_append_left (List.getElem?_eq_some_iff.1 hu).1]
        exact hu

theorem Frame.stores {P : Program} {m0 : Mem} {w0 : World} : ∀ (vs : List Value) (m : Mem) (w : World) (p : Addr) (i n : Nat), Frame m0 w0 m w → m.room p n → i + vs.length ≤ n → oneCells vs = true →
    ∃ w', (Go.storeCells p vs i).run P w = .ok () w' ∧ Frame m0 w0 (m.setCells p i vs) w'
  | [], m, w, p, i, n, h, _, _, _ => ⟨w, rfl, h⟩
  | v :: vs, m, w, p, i, n, h, hr, hl, ho => by
    simp only [oneCells, Bool.and_eq_true] at ho
    simp at hl
    obtain ⟨⟨u, hu⟩, hf⟩ := hr i (by omega)
    have h1 := run_store1 (P := P) ho.1 (Mem.sub_cell h.sub hu) (by rw [Mem.sub_fz h.sub hu]; exact hf)
    have h2 := h.setCell v (Mem.cell_dom hu)
    obtain ⟨w', hw, h3⟩ := Frame.stores vs (m.setCell (p.add i) v) _ p (i + 1) n h2 (room_setCell hr) (by omega) ho.2
    refine ⟨w', ?_, h3⟩
    simp only [Go.storeCells, Sem.run_bind, h1, Result.andThen_ok]
    exact hw
theorem append_str {P : Program} {T : Tbl} {m : Mem} {K : Value → Mem → Prop} (hT : T.ok P = true) {t u e ty : Nat} {cs : Array Bool} (ht : (T.at t).k = .slice e) (hu : (T.at u).k = .str) (hs1 : (T.at e).size = 1) {A : Option Addr} {n c : Nat} {s : ByteArray} {olds : List Value}
    (hok : AppOkS T e m A n c s.size (byteVals s.data.toList) olds) (hK : ∀ A' c' m2, AppR T e m A n c s.size (byteVals s.data.toList) olds A' c' m2 → K (.slice A' (n + s.size) c') m2) :
    NextP P (builtin .append #[t, u] ty cs #[.slice A n c, .string s]) m K := by
  intro w hw
  obtain ⟨hn, hroom, hgrow⟩ := hok
  have hut := under_slice (Tbl.fact hT (t := t) (by rw [ht]; simp)) ht
  have huu := under_str (Tbl.fact hT (t := u) (by rw [hu]; simp)) hu
  have hfe := tyfact_of_size hT (t := e) (by omega)
  obtain ⟨inf, hinf, hb, hs⟩ := hfe.typeInfo w
  have hcells : Lib.strCells s = byteVals s.data.toList := rfl
  have hfc := fun w => Lib.run_firstCells_string (P := P) w 1 s
  by_cases hle : n + s.size ≤ c
  · have hrun0 : ∀ w', (match A with | some p => Go.storeCells (p.add (n * (T.at e).size)) (byteVals s.data.toList) | none => pure ()).run P w = .ok () w' →
        (Builtin.append_ #[t, u] ty #[.slice A n c, .string s]).run P w = .ok (.slice A (n + s.size) c) w' := by
      intro w' hw'
      simp only [Builtin.append_]
      simp only [List.getElem?_toArray, List.getElem?_cons_zero, List.getElem?_cons_succ, Sem.run_bind, run_underlying hut, run_underlying huu, hfe.size w, Result.andThen_ok, Sem.run_pure]
      simp only [Bool.false_eq_true, if_false, Builtin.lenOf, Sem.run_pure, Result.andThen_ok, hle, if_true, Bool.not_false, Sem.run_bind, hs1, hfc, hcells]
      cases A with
      | none => simpa using hw'
      | some p =>
        simp only [hs1] at hw'
        simp only [Sem.run_bind, hw', Result.andThen_ok, Sem.run_pure]
    rcases hroom hle with rfl | ⟨p, rfl, hr, hone⟩
    · exact ⟨_, _, _, run_val (hrun0 w rfl), hK _ _ _ (.inl ⟨hle, rfl, rfl, .inl ⟨rfl, rfl⟩⟩), Frame.refl hw⟩
    · obtain ⟨w', h1, h2⟩ := Frame.stores (P := P) (byteVals s.data.toList) m w (p.add (n * (T.at e).size)) 0 _ (Frame.refl hw) hr (by rw [hn]; omega) hone
      exact ⟨_, _, _, run_val (hrun0 w' h1), hK _ _ _ (.inl ⟨hle, rfl, rfl, .inr ⟨p, rfl, rfl⟩⟩), h2⟩
  · obtain ⟨hby, hcap, hol, holds⟩ := hgrow (by omega)
    have hby : 0 < (T.at e).bytes := by have := Nat.le_of_ble_eq_true hby; omega
    obtain ⟨cap, hcapdef⟩ : ∃ cap, cap = (Question.appendCap (n + s.size) c e).cut (w.tape w.drawn (.appendCap (n + s.size) c e)) := ⟨_, rfl⟩
    have hcapge : n + s.size ≤ cap := by rw [hcapdef]; simp only [Question.cut]; omega
    obtain ⟨z, hz, hzl⟩ := zerosRest (P := P) hfe (cap - (n + s.size)) { w with drawn := w.drawn + 1 }
    have hsub' : m.sub { w with drawn := w.drawn + 1 } := hw
    have hfo := firstCells_slice (S := ⟨[], [], m⟩) (P := P) (c := c) hsub' hol holds
    have hF : Frame m w m { w with drawn := w.drawn + 1 } := (Frame.refl hw).drew (Nat.le_succ _)
    have hrun : (Builtin.append_ #[t, u] ty #[.slice A n c, .string s]).run P w =
        .ok (.slice (some ⟨w.heap.size, 0, none⟩) (n + s.size) cap) (World.alloc { w with drawn := w.drawn + 1 } (.cells (olds ++ byteVals s.data.toList ++ (zerosOf T e (cap - (n + s.size))).list).toArray e (0, 0))) := by
      simp only [Builtin.append_]
      simp only [List.getElem?_toArray, List.getElem?_cons_zero, List.getElem?_cons_succ, Sem.run_bind, run_underlying hut, run_underlying huu, hfe.size w, Result.andThen_ok, Sem.run_pure]
      simp only [Bool.false_eq_true, if_false, Builtin.lenOf, Sem.run_pure, Result.andThen_ok, hle, Bool.not_false, if_true, Sem.run_bind, hinf, hb]
      have hneg : ¬ (((n + s.size : Nat) : Int) > IntKind.i64.max ∧ (False ∨ (T.at e).bytes = 0)) := by
        rintro ⟨_, h | h⟩
        · exact h
        · omega
      rw [if_neg hneg]
      simp only [Sem.run_bind, Result.andThen_ok, hinf, hb]
      rw [if_neg (by omega)]
      simp only [Sem.run_bind, Sem.run_pure, Result.andThen_ok, run_choose, Question.forced, Bool.false_eq_true, if_false, ← hcapdef]
      have hinf' : (typeInfo e).run P { w with drawn := w.drawn + 1 } = .ok inf { w with drawn := w.drawn + 1 } := by
        obtain ⟨inf', h1, h2, h3⟩ := hfe.info
        simp only [typeInfo, Sem.run_bind, run_program, Result.andThen_ok, h1, Sem.run_pure] at hinf ⊢
        cases hinf
        rfl
      rw [hs1] at hfo
      simp only [hinf', Result.andThen_ok, run_askRoom, hs1, hfo, hfc, hcells, hz, Sem.run_pure, newRow, Sem.run_bind, run_newObj]
      have : olds.toArray ++ (byteVals s.data.toList).toArray ++ Builtin.zeroCells z.cells (cap - (n + s.size)) = (olds ++ byteVals s.data.toList ++ (zerosOf T e (cap - (n + s.size))).list).toArray := by
        apply Array.ext'
        simp [hzl]
      rw [this]
      rfl
    exact ⟨_, _, _, run_val hrun, hK _ _ _ (.inr ⟨by omega, w.heap.size, hcapge, sub_fresh hw, rfl, rfl⟩), hF.alloc _⟩
end Go.Mv
/- Mv: maps whose keys are texts. -/
namespace Go.Mv
open Go
abbrev MapL := List (ByteArray × Value)
def findL (k : ByteArray) : MapL → Option Value
  | [] => none
  | x :: r => if x.1 = k then some x.2 else findL k r
/-- The map at b: its entries in the order in which they came. -/
def mp (b : Nat) (l : MapL) : Asn := fun m => ∃ es clk, m b = some (.map es clk) ∧ es.toList.map (fun e => (e.key, e.val)) = l.map fun x => (Value.string x.1, x.2)
theorem find_str {k : ByteArray} : ∀ (es : List MapEntry) (l : MapL) (i : Nat), es.map (fun e => (e.key, e.val)) = l.map (fun x => (Value.string x.1, x.2)) →
    (findL k l = none ∧ Instr.findNow .string (.string k) es i = some none) ∨ ∃ v j, findL k l = some v ∧ Instr.findNow .string (.string k) es i = some (some (j, v))
  | [], [], i, _ => .inl ⟨rfl, rfl⟩
  | [], x :: l, i, h => by cases h
  | e :: es, [], i, h => by cases h
  | e :: es, x :: l, i, h => by
    simp only [List.map_cons, List.cons.injEq, Prod.mk.injEq] at h
    obtain ⟨⟨h1, h2⟩, h3⟩ := h
    have hs : Instr.sameNow .string (.string k) e.key = some (k == x.1) := by rw [h1]; rfl
    by_cases hk : k = x.1
    · right
      refine ⟨x.2, i, by unfold findL; rw [if_pos hk.symm], ?_⟩
      unfold Instr.findNow
      rw [hs, show (k == x.1) = true from (MapKept.bytes_beq k x.1).2 hk]
      simp only
      rw [h2]
    · have hb : (k == x.1) = false := by
        cases hq : k == x.1 with
        | false => rfl
        | true => exact absurd ((MapKept.bytes_beq k x.1).1 hq) hk
      have hf : findL k (x :: l) = findL k l := by
        show (if x.1 = k then some x.2 else findL k l) = _
        rw [if_neg (fun h => hk h.symm)]
      have hn : Instr.findNow .string (.string k) (e :: es) i = Instr.findNow .string (.string k) es (i + 1) := by
        rw [Instr.findNow, hs, hb]
      rw [hf, hn]
      exact find_str es l (i + 1) h3
theorem mp_at {L : List Asn} {m : Mem} {b : Nat} {l : MapL} (h : Sep L m) (j : Nat) (hj : L[j]? = some (mp b l)) : mp b l m := by
  obtain ⟨m1, h1, es, clk, h2, h3⟩ := h.get j hj
  exact ⟨es, clk, h1 _ _ h2, h3⟩
variable {P : Program} {m : Mem} {t kt et : TypeId}
theorem map_look {b : Nat} {l : MapL} {k : ByteArray} {z : Value} {K : Value → Mem → Prop} (h : mp b l m) (ht : P.underlying t = some (.map kt et)) (hk : P.underlying kt = some .string) (hz : ∀ w, (zeroValue et).run P w = .ok z w)
    (hK : K (.tuple #[(findL k l).getD z, .bool (findL k l).isSome]) m) : RunP P (Instr.lookup t (.map (some b)) (.string k) true) m K := by
  obtain ⟨es, clk, hb, hl⟩ := h
  refine fun w hw => ⟨_, w, m, ?_, hK, Frame.refl hw⟩
  have hb' := hw b _ hb
  have hc : ∀ e, (Instr.checkKey e 10000 kt (.string k)).run P w = .ok () w := fun e => MapKept.run_checkKey (k := .string k) hk (by simp [MapKept.IsKey]) e 9999
  rcases find_str (k := k) es.toList l 0 hl with ⟨h1, h2⟩ | ⟨v, j, h1, h2⟩
  · rw [h1]
    simp [Instr.lookup, run_underlying ht, MapKept.run_getObj_map hb', hc, MapKept.run_findKey hk h2, hz, Result.andThen]
  · rw [h1]
    simp [Instr.lookup, run_underlying ht, MapKept.run_getObj_map hb', hc, MapKept.run_findKey hk h2, Result.andThen]
theorem Sep.setObj {R : List Asn} {b : Nat} {o : Obj} {A B : Asn} (h : Sep (A :: R) m) (hA : ∀ m1, A m1 → m1 b ≠ none) (hB : ∀ m1 : Mem, m1 b = some o → B m1) : Sep (B :: R) (m.set b o) := by
  refine h.step 0 rfl fun m1 hm hA1 => ⟨m1.set b o, hB _ (by simp [Mem.set]), fun k o' hk => ?_, fun k hk => ?_, fun k o' hk hn => ?_⟩
  · by_cases hkb : k = b
    · subst hkb
      simpa [Mem.set] using hk
    · rw [Mem.set_ne hkb] at hk ⊢
      exact hm k o' hk
  · by_cases hkb : k = b
    · subst hkb
      exact .inl (hA m1 hA1)
    · rw [Mem.set_ne hkb] at hk
      exact .inl hk
  · rw [Mem.set_ne]
    · exact hk
    · rintro rfl
      exact hA m1 hA1 hn
theorem mp_some {b : Nat} {l : MapL} : ∀ m1 : Mem, mp b l m1 → m1 b ≠ none := fun m1 ⟨es, clk, h, _⟩ => by rw [h]; simp
/-- A new key. -/
theorem map_push {b : Nat} {l : MapL} {k : ByteArray} {v : Value} {R : List Asn} {K : Mem → Prop} (h : Sep (mp b l :: R) m) (ht : P.underlying t = some (.map kt et)) (hk : P.underlying kt = some .string) (hn : findL k l = none)
    (hK : ∀ m2, Sep (mp b (l ++ [(k, v)]) :: R) m2 → K m2) : RunU P (updRun t [.map (some b), .string k, v]) m K := by
  obtain ⟨es, clk, hb, hl⟩ := mp_at h 0 rfl
  have hfin := h.setObj (o := .map (es.push { key := .string k, val := v, born := clk }) (clk + 1)) (B := mp b (l ++ [(k, v)])) mp_some fun m1 h1 => ⟨_, _, h1, by simp [hl]⟩
  refine fun w hw => ⟨_, _, ?_, hK _ hfin, Frame.setObj hw (by rw [hb]; simp)⟩
  have hb' := hw b _ hb
  have hc : ∀ e, (Instr.checkKey e 10000 kt (.string k)).run P w = .ok () w := fun e => MapKept.run_checkKey (k := .string k) hk (by simp [MapKept.IsKey]) e 9999
  rcases find_str (k := k) es.toList l 0 hl with ⟨h1, h2⟩ | ⟨u, j, h1, h2⟩
  · show (Instr.mapUpdate t (.map (some b)) (.string k) v).run P w = _
    simp [Instr.mapUpdate, run_underlying ht, MapKept.run_getObj_map hb', hc, MapKept.run_findKey hk h2, MapKept.run_setObj_map _ hb', Result.andThen]
  · rw [hn] at h1
    cases h1
theorem map_clear {b : Nat} {l : MapL} {ty : TypeId} {cs : Array Bool} {R : List Asn} {K : Value → Mem → Prop} (h : Sep (mp b l :: R) m) (ht : P.underlying t = some (.map kt et))
    (hK : ∀ m2, Sep (mp b [] :: R) m2 → K (.tuple #[]) m2) : NextP P (builtin .clear #[t] ty cs #[.map (some b)]) m K := by
  obtain ⟨es, clk, hb, hl⟩ := mp_at h 0 rfl
  have hfin := h.setObj (o := .map #[] clk) (B := mp b []) mp_some fun m1 h1 => ⟨_, _, h1, rfl⟩
  refine fun w hw => ⟨_, _, _, ?_, hK _ hfin, Frame.setObj hw (by rw [hb]; simp)⟩
  have hb' := hw b _ hb
  simp [builtin, Builtin.clear_, run_underlying ht, MapKept.run_getObj_map hb', MapKept.run_setObj_map _ hb', Result.andThen]
theorem map_new {R : List Asn} {K : Value → Mem → Prop} (h : Sep R m) (hK : ∀ b m2, Sep (mp b [] :: R) m2 → K (.map (some b)) m2) : RunP P (Instr.makeMap t none) m K := by
  intro w hw
  have hf := sub_fresh hw
  refine ⟨.map (some w.heap.size), w.alloc (.map #[] 0), m.set w.heap.size (.map #[] 0), rfl, hK _ _ ?_, Frame.alloc (Frame.refl hw) _⟩
  refine ⟨fun k => if k = w.heap.size then some (.map #[] 0) else none, m, fun k => ?_, fun k o hk => ?_, Mem.le_set hf, ⟨_, _, if_pos rfl, rfl⟩, h⟩
  · by_cases hk : k = w.heap.size
    · exact .inr (hk ▸ hf)
    · exact .inl (if_neg hk)
  · simp only at hk
    split at hk
    · rename_i he
      subst he
      simpa [Mem.set] using hk
    · cases hk
end Go.Mv
/- Dfa: instructions; code.Right, code.Free. -/
namespace Go.Proofs.Ytkkcdfnlmhmheaa
open Go Go.Mv
set_option maxHeartbeats 1000000
set_option maxRecDepth 10000
set_option linter.unusedVariables false
set_option linter.unusedSimpArgs false
attribute [local irreducible] FCalls IntKind.wrap bits Mem.set Mem.setCell Mem.setCells YCalls RunP NextP RunU
/-- An instruction. -/
structure Ins where
  op : Int
  x : Int
  y : Int
  n : Int
  mn : Int
  mx : Int
  s0 : Int
  s1 : Int
  s2 : Int
  s3 : Int
def Ins.cells (i : Ins) : List Value := [.int .i64 i.op, .int .i64 i.x, .int .i64 i.y, .int .i64 i.n, .int .i64 i.mn, .int .i64 i.mx, .int .u64 i.s0, .int .u64 i.s1, .int .u64 i.s2, .int .u64 i.s3]
theorem ins_len (i : Ins) : i.cells.length = 10 := rfl
def icells (l : List Ins) : List Value := l.flatMap Ins.cells
/-- A program as a value. -/
structure Prg where
  A : Option Addr
  c : Nat
  ins : List Ins
  groups : Int
  counters : Int
  fold : Bool
def Prg.cells (q : Prg) : List Value := [.slice q.A q.ins.length q.c, .int .i64 q.groups, .int .i64 q.counters, .bool q.fold]
def Prg.val (q : Prg) : Value := .agg q.cells.toArray
def Prg.at (m : Mem) (q : Prg) : Prop := Rd m q.A (icells q.ins)
/-- What an operation uses. -/
structure Uses where
  set : Bool
  x : Bool
  y : Bool
  g : Bool
  c : Bool
  n : Bool
def Uses.cells (u : Uses) : List Value := [.bool u.set, .bool u.x, .bool u.y, .bool u.g, .bool u.c, .bool u.n]
def usesOf (op : Int) : Option Uses :=
  if op = 1 then some ⟨true, false, false, false, false, true⟩
  else if op = 2 then some ⟨false, true, true, false, false, false⟩
  else if op = 3 then some ⟨false, true, false, false, false, false⟩
  else if op = 4 ∨ op = 5 then some ⟨false, false, false, false, false, true⟩
  else if op = 6 ∨ op = 7 ∨ op = 8 then some ⟨false, false, false, true, false, true⟩
  else if op = 9 then some ⟨false, false, false, false, true, true⟩
  else if op = 10 then some ⟨false, true, true, false, true, false⟩
  else if op = 11 then some ⟨false, false, false, false, false, false⟩
  else none
def noUse : Uses := ⟨false, false, false, false, false, false⟩
theorem of_c {m : Mem} {op : Int} : FCalls Try.prog 44 [.int .i64 op] m fun v m' => v = .tuple #[.agg ((usesOf op).getD noUse).cells.toArray, .bool (usesOf op).isSome] ∧ m' = m := by
  refine fcalls_of_vc (T := tbl) (B := bodies) (pr := [2]) (DR := dr44) (args := [.v (.int .i64 op)]) tbl_ok bodies_ok mixed Try.func44 rfl (by decide +kernel) (by simp [Try.f44]) rfl ?_
  (conv => whnf)
  repeat' (first
    | (refine brk_intro (fun c => ?_) (fun c => ?_) <;> (conv => whnf))
    | (apply And.intro <;> (conv => whnf))
    | exact True.intro)
  all_goals first
    | rfl
    | (exfalso; simp only [beq_iff_eq, beq_eq_false_iff_ne, ne_eq] at *; omega)
    | (refine Eq.trans (b := .tuple #[.agg ((usesOf op).getD noUse).cells.toArray, .bool (usesOf op).isSome]) ?_ rfl
       simp only [beq_iff_eq, beq_eq_false_iff_ne, ne_eq] at *
       generalize he : usesOf op = e
       unfold usesOf at he
       simp_all only [if_true, if_false, true_or, or_true, or_self]
       subst he
       rfl)
def withinF (u : Bool) (n b : Int) : Bool := if u then decide (0 ≤ n ∧ n < b) else decide (n = 0)
theorem within_c {m : Mem} {u : Bool} {n b : Int} : FCalls Try.prog 45 [.bool u, .int .i64 n, .int .i64 b] m fun v m' => v = .bool (withinF u n b) ∧ m' = m := by
  refine fcalls_of_vc (T := tbl) (B := bodies) (pr := []) (DR := dr45) (args := [.v (.bool u), .v (.int .i64 n), .v (.int .i64 b)]) tbl_ok bodies_ok mixed Try.func45 rfl (by decide +kernel) (by simp [Try.f45]) rfl ?_
  (conv => whnf)
  refine brk_intro (fun c => ?_) (fun c => ?_)
  · subst c
    (conv => whnf)
    refine brk_intro (fun c => ?_) (fun c => ?_)
    · have c : 0 ≤ n := by simpa using c
      (conv => whnf)
      exact ⟨by unfold withinF; simp [c, single] <;> rfl, rfl⟩
    · have c : ¬ 0 ≤ n := by simpa using c
      (conv => whnf)
      exact ⟨by unfold withinF; simp [c, single], rfl⟩
  · subst c
    (conv => whnf)
    refine ⟨?_, rfl⟩
    show Value.bool (n == 0) = Value.bool (decide (n = 0))
    rfl
def boundsF (i : Ins) : Bool := if i.op ≠ 10 then decide (i.mn = 0 ∧ i.mx = 0) else decide (0 ≤ i.mn ∧ i.mn ≤ 255 ∧ (i.mx = -1 ∨ i.mn ≤ i.mx ∧ i.mx ≤ 255))
theorem bounds_c {m : Mem} {i : Ins} : FCalls Try.prog 46 [.agg i.cells.toArray] m fun v m' => v = .bool (boundsF i) ∧ m' = m := by
  refine fcalls_of_vc (T := tbl) (B := bodies) (pr := [1]) (DR := dr46) (args := [.v (.agg i.cells.toArray)]) tbl_ok bodies_ok mixed Try.func46 rfl (by decide +kernel) (by simp [Try.f46]) rfl ?_
  (conv => whnf)
  repeat' (first
    | (refine brk_intro (fun c => ?_) (fun c => ?_) <;> (conv => whnf))
    | (apply And.intro <;> (conv => whnf))
    | exact True.intro)
  all_goals first
    | rfl
    | (change Value.bool _ = Value.bool _
       refine congrArg Value.bool ?_
       unfold boundsF
       by_cases h : i.op = 10
       · simp_all <;> omega
       · simp_all <;> rfl)
def fineF (q : Prg) (k : Nat) : Bool := match q.ins[k]? with
  | none => false
  | some i => match usesOf i.op with
    | none => false
    | some u => (u.set || decide (i.s0 = 0 ∧ i.s1 = 0 ∧ i.s2 = 0 ∧ i.s3 = 0)) && withinF u.x i.x q.ins.length && withinF u.y i.y q.ins.length &&
      withinF (u.g || u.c) i.n (if u.c then q.counters else q.groups) && boundsF i && (!u.n || decide (k + 1 < q.ins.length))
theorem ins_at {m : Mem} {A : Option Addr} {l : List Ins} {k : Nat} {i : Ins} (h : Rd m A (icells l)) (hi : l[k]? = some i) : ∃ p, A = some p ∧ ∀ (o : Nat) v, i.cells[o]? = some v → m.cell ((p.add (k * 10)).add o) = some v := by
  obtain ⟨q0, hq0, _⟩ := h.atf (k := k * 10) (off := 0) ((flat_get ins_len hi (o := 0) (by decide)).trans rfl)
  refine ⟨q0, hq0, fun o v ho => ?_⟩
  have hlt : o < 10 := by
    have := (List.getElem?_eq_some_iff.1 ho).1
    rw [ins_len] at this
    exact this
  obtain ⟨q1, hq1, hc1⟩ := h.atf (k := k * 10) (off := o) ((flat_get ins_len hi (o := o) hlt).trans ho)
  rw [hq0] at hq1
  cases hq1
  exact hc1
theorem fine_c {m : Mem} {q : Prg} {k : Nat} {i : Ins} (hq : q.at m) (hi : q.ins[k]? = some i) (hn : q.ins.length ≤ 40000) :
    FCalls Try.prog 37 [q.val, .int .i64 ((k : Nat) : Int)] m fun v m' => v = .bool (fineF q k) ∧ m' = m := by
  obtain ⟨p, hp, hc⟩ := ins_at hq hi
  have hlt := (List.getElem?_eq_some_iff.1 hi).1
  refine FCalls.less ?_
  refine fcalls_of_vc (T := tbl) (B := bodies) (pr := [99999, 2, 6]) (DR := dr37) (args := [.v q.val, .v (.int .i64 ((k : Nat) : Int))]) tbl_ok bodies_ok mixed Try.func37 rfl (by decide +kernel) (by simp [Try.f37]) rfl ?_
  (conv => whnf)
  refine ⟨p, hp, by omega, by omega, ?_⟩
  (conv => whnf)
  refine ⟨_, hc 0 _ rfl, ?_⟩
  (conv => whnf)
  refine ⟨_, hc 1 _ rfl, ?_⟩
  (conv => whnf)
  refine ⟨_, hc 2 _ rfl, ?_⟩
  (conv => whnf)
  refine ⟨_, hc 3 _ rfl, ?_⟩
  (conv => whnf)
  refine ⟨_, hc 4 _ rfl, ?_⟩
  (conv => whnf)
  refine ⟨_, hc 5 _ rfl, ?_⟩
  (conv => whnf)
  refine ⟨_, hc 6 _ rfl, ?_⟩
  (conv => whnf)
  refine ⟨_, hc 7 _ rfl, ?_⟩
  (conv => whnf)
  refine ⟨_, hc 8 _ rfl, ?_⟩
  (conv => whnf)
  refine ⟨_, hc 9 _ rfl, ?_⟩
  (conv => whnf)
  intro b5 m2 hb he
  have h := (Sep.init m).new' (l := (tbl.at 46).zero.list) hb he
  clear hb he
  (conv => whnf)
  refine ⟨h.rooms 0 (i := 0) rfl (by decide), fun m3 he => ?_⟩
  replace h : Sep [pt b5 i.cells, kp m] m3 := he ▸ h.putAll 0 (i := 0) i.cells rfl
  clear he
  have k0 := h.cell 0 (i := 0) rfl rfl
  have k1 := h.cell 0 (i := 1) rfl rfl
  have k2 := h.cell 0 (i := 2) rfl rfl
  have k3 := h.cell 0 (i := 3) rfl rfl
  have k4 := h.cell 0 (i := 4) rfl rfl
  have k5 := h.cell 0 (i := 5) rfl rfl
  have k6 := h.cell 0 (i := 6) rfl rfl
  have k7 := h.cell 0 (i := 7) rfl rfl
  have k8 := h.cell 0 (i := 8) rfl rfl
  have k9 := h.cell 0 (i := 9) rfl rfl
  (conv => whnf)
  refine ⟨_, k0, ?_⟩
  (conv => whnf)
  refine FCalls.mono of_c ?_
  rintro v m' ⟨rfl, rfl⟩
  obtain ⟨u, hu⟩ : ∃ u, u = (usesOf i.op).getD noUse := ⟨_, rfl⟩
  obtain ⟨ok, hok⟩ : ∃ b, b = (usesOf i.op).isSome := ⟨_, rfl⟩
  rw [← hu, ← hok]
  have step1 : IntKind.i64.wrap ((k : Int) + 1) = ((k + 1 : Nat) : Int) := wrap_id (by omega) (by omega)
  have hF : fineF q k = (ok && (u.set || decide (i.s0 = 0 ∧ i.s1 = 0 ∧ i.s2 = 0 ∧ i.s3 = 0)) && withinF u.x i.x q.ins.length && withinF u.y i.y q.ins.length &&
      withinF (u.g || u.c) i.n (if u.c then q.counters else q.groups) && boundsF i && (!u.n || decide (k + 1 < q.ins.length))) := by
    unfold fineF
    rw [hi]
    simp only
    cases h : usesOf i.op with
    | none => rw [h] at hok; rw [hok]; simp
    | some x => rw [h] at hok hu; rw [hok, hu]; simp
  clear hu hok
  have ka : ∀ j, j < 4 → m'.cell (((⟨b5, 0, none⟩ : Addr).add 6).add j) = some (.int .u64 ([i.s0, i.s1, i.s2, i.s3].getD j 0)) := fun j hj => by
    have : j = 0 ∨ j = 1 ∨ j = 2 ∨ j = 3 := by omega
    rcases this with rfl | rfl | rfl | rfl
    · exact k6
    · exact k7
    · exact k8
    · exact k9
  have hk := h.kept 1 rfl
  clear h
  rw [hF]
  (conv => whnf)
  repeat' (first
    | (refine brk_intro (fun c => ?_) (fun c => ?_) <;> (conv => whnf))
    | (refine FCalls.mono within_c ?_; rintro v m1 ⟨rfl, rfl⟩; (conv => whnf))
    | (refine FCalls.mono bounds_c ?_; rintro v m1 ⟨rfl, rfl⟩; (conv => whnf))
    | (refine ⟨_, k0, ?_⟩; (conv => whnf))
    | (refine ⟨_, k1, ?_⟩; (conv => whnf))
    | (refine ⟨_, k2, ?_⟩; (conv => whnf))
    | (refine ⟨_, k3, ?_⟩; (conv => whnf))
    | (refine ⟨_, k4, ?_⟩; (conv => whnf))
    | (refine ⟨_, k5, ?_⟩; (conv => whnf))
    | (refine ⟨_, k6, ?_⟩; (conv => whnf))
    | (refine ⟨_, k7, ?_⟩; (conv => whnf))
    | (refine ⟨_, k8, ?_⟩; (conv => whnf))
    | (refine ⟨_, k9, ?_⟩; (conv => whnf))
    | (show ∃ xs : List Int, _; refine ⟨[i.s0, i.s1, i.s2, i.s3], rfl, ka, ?_⟩; (conv => whnf); refine ⟨rfl, rfl, ?_⟩; (conv => whnf)))
  all_goals
    refine ⟨m, hk, ?_, rfl⟩
    change Value.bool _ = Value.bool _
    refine congrArg Value.bool ?_
    clear hF hc ka k0 k1 k2 k3 k4 k5 k6 k7 k8 k9 hk hq hp
    have hlt2 : ((k + 1 : Nat) : Int) < q.ins.length ↔ k + 1 < q.ins.length := by omega
    try rw [step1]
    generalize withinF u.x i.x q.ins.length = w1 at *
    generalize withinF u.y i.y q.ins.length = w2 at *
    generalize boundsF i = w3 at *
    generalize q.ins.length = n at *
  all_goals first
    | (simp_all; done)
end Go.Proofs.Ytkkcdfnlmhmheaa
