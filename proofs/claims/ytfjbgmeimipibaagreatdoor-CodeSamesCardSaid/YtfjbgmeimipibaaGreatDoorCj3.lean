/- Texts that the claim leans on, joined: MvTab, MvOpenB, MvGen, MvMap, DfA, DfB, DfC, CoA, CoSh, MvByte, MvPan, CoLib, SsA, CoB, CoC. -/
import Derived.Test.YtfjbgmeimipibaaGreatDoorCj2
import Derived.Test.YtfjbgmeimipibaaGreatDoorProg
import Derived.KernelRfl
import Derived.Laws.RangeString
import Derived.Laws.Runes
import Derived.Lib.UnsafeStr
import Derived.Lib.Builder
import Derived.MapKept
import Derived.Shelf.LaysM
import Derived.Shelf.LaysC
import Derived.Shelf.Strings.OnBuilder
import Derived.Shelf.Strings.Split
import Derived.Shelf.Strings.Cut
import Derived.Shelf.Strings.Shaped
import Derived.Shelf.Strings.SlTrimAscii
import Derived.Shelf.Strconv.Itoa3
import Derived.Shelf.Strconv.Atoi
import Derived.Shelf.Strconv.ToError
import Derived.Lib.ConvBytes
import Derived.RecoverIn
import Derived.Lib.SplitLaws
import Derived.Laws.BitsAllLaws
/- The table of types of this seat's translation, the functions with bodies, and where the tails of regions that draw their order begin. Written by a program of this session. -/
namespace Go.Proofs.YtfjbgmeimipibaaGreatDoor
open Go Go.Mv
def tbl : Tbl := [
  (1, ⟨.func, 1, 8, .cells [.nilFunc], false⟩),
  (2, ⟨.int .i64, 1, 8, .cells [.int .i64 0], false⟩),
  (3, ⟨.int .i64, 1, 8, .cells [.int .i64 0], false⟩),
  (4, ⟨.bool, 1, 1, .cells [.bool false], false⟩),
  (5, ⟨.int .u8, 1, 1, .cells [.int .u8 0], false⟩),
  (6, ⟨.int .u8, 1, 1, .cells [.int .u8 0], false⟩),
  (7, ⟨.struct [(0, 2), (1, 3), (2, 4), (3, 6)], 4, 24, .cells [.int .i64 0, .int .i64 0, .bool false, .int .u8 0], true⟩),
  (8, ⟨.struct [(0, 2), (1, 3), (2, 4), (3, 6)], 4, 24, .cells [.int .i64 0, .int .i64 0, .bool false, .int .u8 0], true⟩),
  (9, ⟨.str, 1, 16, .cells [.string ⟨#[]⟩], false⟩),
  (10, ⟨.str, 1, 16, .cells [.string ⟨#[]⟩], false⟩),
  (11, ⟨.str, 1, 16, .cells [.string ⟨#[]⟩], false⟩),
  (12, ⟨.int .u64, 1, 8, .cells [.int .u64 0], false⟩),
  (13, ⟨.struct [(0, 9), (1, 12)], 2, 24, .cells [.string ⟨#[]⟩, .int .u64 0], false⟩),
  (14, ⟨.struct [(0, 9), (1, 12)], 2, 24, .cells [.string ⟨#[]⟩, .int .u64 0], false⟩),
  (15, ⟨.ptr, 1, 8, .cells [.pointer none], false⟩),
  (16, ⟨.ptr, 1, 8, .cells [.pointer none], false⟩),
  (17, ⟨.ptr, 1, 8, .cells [.pointer none], false⟩),
  (18, ⟨.struct [(0, 17)], 1, 8, .cells [.pointer none], false⟩),
  (19, ⟨.struct [(0, 17)], 1, 8, .cells [.pointer none], false⟩),
  (20, ⟨.one, 1, 16, .cells [.nilIface], false⟩),
  (21, ⟨.int .i32, 1, 4, .cells [.int .i32 0], false⟩),
  (22, ⟨.slice 56, 1, 24, .cells [.slice none 0 0], false⟩),
  (23, ⟨.struct [(0, 22), (1, 3), (2, 3), (3, 4)], 4, 48, .cells [.slice none 0 0, .int .i64 0, .int .i64 0, .bool false], false⟩),
  (24, ⟨.struct [(0, 22), (1, 3), (2, 3), (3, 4)], 4, 48, .cells [.slice none 0 0, .int .i64 0, .int .i64 0, .bool false], false⟩),
  (25, ⟨.func, 1, 8, .cells [.nilFunc], false⟩),
  (26, ⟨.func, 1, 8, .cells [.nilFunc], false⟩),
  (28, ⟨.func, 1, 8, .cells [.nilFunc], false⟩),
  (30, ⟨.func, 1, 8, .cells [.nilFunc], false⟩),
  (31, ⟨.slice 3, 1, 24, .cells [.slice none 0 0], false⟩),
  (33, ⟨.func, 1, 8, .cells [.nilFunc], false⟩),
  (34, ⟨.slice 31, 1, 24, .cells [.slice none 0 0], false⟩),
  (35, ⟨.int .i64, 1, 8, .cells [.int .i64 0], false⟩),
  (37, ⟨.func, 1, 8, .cells [.nilFunc], false⟩),
  (39, ⟨.func, 1, 8, .cells [.nilFunc], false⟩),
  (41, ⟨.func, 1, 8, .cells [.nilFunc], false⟩),
  (42, ⟨.func, 1, 8, .cells [.nilFunc], false⟩),
  (43, ⟨.func, 1, 8, .cells [.nilFunc], false⟩),
  (44, ⟨.func, 1, 8, .cells [.nilFunc], false⟩),
  (46, ⟨.func, 1, 8, .cells [.nilFunc], false⟩),
  (47, ⟨.one, 1, 16, .cells [.nilIface], false⟩),
  (48, ⟨.one, 1, 16, .cells [.nilIface], false⟩),
  (50, ⟨.func, 1, 8, .cells [.nilFunc], false⟩),
  (51, ⟨.func, 1, 8, .cells [.nilFunc], false⟩),
  (52, ⟨.int .u64, 1, 8, .cells [.int .u64 0], false⟩),
  (53, ⟨.arr 4 52, 4, 32, .ints .u64 [0, 0, 0, 0], true⟩),
  (54, ⟨.arr 4 52, 4, 32, .ints .u64 [0, 0, 0, 0], true⟩),
  (55, ⟨.struct [(0, 3), (1, 3), (2, 3), (3, 3), (4, 3), (5, 3), (6, 54)], 10, 80, .cells [.int .i64 0, .int .i64 0, .int .i64 0, .int .i64 0, .int .i64 0, .int .i64 0, .int .u64 0, .int .u64 0, .int .u64 0, .int .u64 0], true⟩),
  (56, ⟨.struct [(0, 3), (1, 3), (2, 3), (3, 3), (4, 3), (5, 3), (6, 54)], 10, 80, .cells [.int .i64 0, .int .i64 0, .int .i64 0, .int .i64 0, .int .i64 0, .int .i64 0, .int .u64 0, .int .u64 0, .int .u64 0, .int .u64 0], true⟩),
  (57, ⟨.func, 1, 8, .cells [.nilFunc], false⟩),
  (58, ⟨.slice 103, 1, 24, .cells [.slice none 0 0], false⟩),
  (59, ⟨.func, 1, 8, .cells [.nilFunc], false⟩),
  (60, ⟨.func, 1, 8, .cells [.nilFunc], false⟩),
  (61, ⟨.func, 1, 8, .cells [.nilFunc], false⟩),
  (62, ⟨.ptr, 1, 8, .cells [.pointer none], false⟩),
  (64, ⟨.struct [(0, 35), (1, 3)], 2, 16, .cells [.int .i64 0, .int .i64 0], true⟩),
  (65, ⟨.struct [(0, 35), (1, 3)], 2, 16, .cells [.int .i64 0, .int .i64 0], true⟩),
  (66, ⟨.func, 1, 8, .cells [.nilFunc], false⟩),
  (67, ⟨.func, 1, 8, .cells [.nilFunc], false⟩),
  (68, ⟨.slice 4, 1, 24, .cells [.slice none 0 0], false⟩),
  (69, ⟨.func, 1, 8, .cells [.nilFunc], false⟩),
  (70, ⟨.func, 1, 8, .cells [.nilFunc], false⟩),
  (71, ⟨.func, 1, 8, .cells [.nilFunc], false⟩),
  (72, ⟨.func, 1, 8, .cells [.nilFunc], false⟩),
  (73, ⟨.slice 5, 1, 24, .cells [.slice none 0 0], false⟩),
  (74, ⟨.func, 1, 8, .cells [.nilFunc], false⟩),
  (75, ⟨.func, 1, 8, .cells [.nilFunc], false⟩),
  (76, ⟨.struct [(0, 4), (1, 4), (2, 4), (3, 4), (4, 4), (5, 4)], 6, 6, .cells [.bool false, .bool false, .bool false, .bool false, .bool false, .bool false], true⟩),
  (77, ⟨.struct [(0, 4), (1, 4), (2, 4), (3, 4), (4, 4), (5, 4)], 6, 6, .cells [.bool false, .bool false, .bool false, .bool false, .bool false, .bool false], true⟩),
  (79, ⟨.func, 1, 8, .cells [.nilFunc], false⟩),
  (80, ⟨.ptr, 1, 8, .cells [.pointer none], false⟩),
  (81, ⟨.struct [(0, 80), (1, 73)], 2, 32, .cells [.pointer none, .slice none 0 0], false⟩),
  (82, ⟨.struct [(0, 80), (1, 73)], 2, 32, .cells [.pointer none, .slice none 0 0], false⟩),
  (84, ⟨.func, 1, 8, .cells [.nilFunc], false⟩),
  (85, ⟨.func, 1, 8, .cells [.nilFunc], false⟩),
  (86, ⟨.struct [(0, 4), (1, 4), (2, 4), (3, 4), (4, 4), (5, 4)], 6, 6, .cells [.bool false, .bool false, .bool false, .bool false, .bool false, .bool false], true⟩),
  (87, ⟨.struct [(0, 4), (1, 4), (2, 4), (3, 4), (4, 4), (5, 4)], 6, 6, .cells [.bool false, .bool false, .bool false, .bool false, .bool false, .bool false], true⟩),
  (89, ⟨.func, 1, 8, .cells [.nilFunc], false⟩),
  (91, ⟨.func, 1, 8, .cells [.nilFunc], false⟩),
  (93, ⟨.func, 1, 8, .cells [.nilFunc], false⟩),
  (94, ⟨.struct [], 0, 0, .cells [], false⟩),
  (95, ⟨.struct [], 0, 0, .cells [], false⟩),
  (98, ⟨.func, 1, 8, .cells [.nilFunc], false⟩),
  (99, ⟨.func, 1, 8, .cells [.nilFunc], false⟩),
  (100, ⟨.func, 1, 8, .cells [.nilFunc], false⟩),
  (101, ⟨.func, 1, 8, .cells [.nilFunc], false⟩),
  (102, ⟨.struct [(0, 3), (1, 3), (2, 3), (3, 3), (4, 3), (5, 3), (6, 3), (7, 3)], 8, 64, .cells [.int .i64 0, .int .i64 0, .int .i64 0, .int .i64 0, .int .i64 0, .int .i64 0, .int .i64 0, .int .i64 0], true⟩),
  (103, ⟨.struct [(0, 3), (1, 3), (2, 3), (3, 3), (4, 3), (5, 3), (6, 3), (7, 3)], 8, 64, .cells [.int .i64 0, .int .i64 0, .int .i64 0, .int .i64 0, .int .i64 0, .int .i64 0, .int .i64 0, .int .i64 0], true⟩),
  (104, ⟨.slice 9, 1, 24, .cells [.slice none 0 0], false⟩),
  (105, ⟨.func, 1, 8, .cells [.nilFunc], false⟩),
  (106, ⟨.func, 1, 8, .cells [.nilFunc], false⟩),
  (107, ⟨.func, 1, 8, .cells [.nilFunc], false⟩),
  (108, ⟨.func, 1, 8, .cells [.nilFunc], false⟩),
  (109, ⟨.func, 1, 8, .cells [.nilFunc], false⟩),
  (110, ⟨.ptr, 1, 8, .cells [.pointer none], false⟩),
  (111, ⟨.func, 1, 8, .cells [.nilFunc], false⟩),
  (112, ⟨.func, 1, 8, .cells [.nilFunc], false⟩),
  (114, ⟨.func, 1, 8, .cells [.nilFunc], false⟩),
  (115, ⟨.slice 9, 1, 24, .cells [.slice none 0 0], false⟩),
  (116, ⟨.func, 1, 8, .cells [.nilFunc], false⟩),
  (117, ⟨.func, 1, 8, .cells [.nilFunc], false⟩),
  (118, ⟨.func, 1, 8, .cells [.nilFunc], false⟩),
  (119, ⟨.func, 1, 8, .cells [.nilFunc], false⟩),
  (121, ⟨.func, 1, 8, .cells [.nilFunc], false⟩),
  (122, ⟨.func, 1, 8, .cells [.nilFunc], false⟩),
  (123, ⟨.arr 12 9, 12, 192, .cells [.string ⟨#[]⟩, .string ⟨#[]⟩, .string ⟨#[]⟩, .string ⟨#[]⟩, .string ⟨#[]⟩, .string ⟨#[]⟩, .string ⟨#[]⟩, .string ⟨#[]⟩, .string ⟨#[]⟩, .string ⟨#[]⟩, .string ⟨#[]⟩, .string ⟨#[]⟩], false⟩),
  (124, ⟨.func, 1, 8, .cells [.nilFunc], false⟩),
  (125, ⟨.func, 1, 8, .cells [.nilFunc], false⟩),
  (126, ⟨.func, 1, 8, .cells [.nilFunc], false⟩),
  (127, ⟨.ptr, 1, 8, .cells [.pointer none], false⟩),
  (128, ⟨.func, 1, 8, .cells [.nilFunc], false⟩),
  (130, ⟨.func, 1, 8, .cells [.nilFunc], false⟩),
  (131, ⟨.int .u64, 1, 8, .cells [.int .u64 0], false⟩),
  (132, ⟨.arr 24 5, 24, 24, .ints .u8 (List.replicate 24 0), true⟩),
  (133, ⟨.func, 1, 8, .cells [.nilFunc], false⟩),
  (134, ⟨.func, 1, 8, .cells [.nilFunc], false⟩),
  (136, ⟨.func, 1, 8, .cells [.nilFunc], false⟩),
  (137, ⟨.func, 1, 8, .cells [.nilFunc], false⟩),
  (138, ⟨.func, 1, 8, .cells [.nilFunc], false⟩),
  (139, ⟨.func, 1, 8, .cells [.nilFunc], false⟩),
  (140, ⟨.func, 1, 8, .cells [.nilFunc], false⟩),
  (141, ⟨.arr 256 4, 256, 256, .bools (List.replicate 256 false), false⟩),
  (142, ⟨.arr 256 4, 256, 256, .bools (List.replicate 256 false), false⟩),
  (144, ⟨.func, 1, 8, .cells [.nilFunc], false⟩),
  (145, ⟨.func, 1, 8, .cells [.nilFunc], false⟩),
  (146, ⟨.ptr, 1, 8, .cells [.pointer none], false⟩),
  (147, ⟨.func, 1, 8, .cells [.nilFunc], false⟩),
  (148, ⟨.func, 1, 8, .cells [.nilFunc], false⟩),
  (149, ⟨.arr 20 52, 20, 160, .ints .u64 (List.replicate 20 0), true⟩),
  (150, ⟨.int .u32, 1, 4, .cells [.int .u32 0], false⟩),
  (151, ⟨.arr 65 5, 65, 65, .ints .u8 (List.replicate 65 0), true⟩),
  (152, ⟨.func, 1, 8, .cells [.nilFunc], false⟩),
  (153, ⟨.func, 1, 8, .cells [.nilFunc], false⟩),
  (154, ⟨.func, 1, 8, .cells [.nilFunc], false⟩),
  (156, ⟨.func, 1, 8, .cells [.nilFunc], false⟩),
  (158, ⟨.func, 1, 8, .cells [.nilFunc], false⟩),
  (159, ⟨.func, 1, 8, .cells [.nilFunc], false⟩),
  (160, ⟨.func, 1, 8, .cells [.nilFunc], false⟩),
  (161, ⟨.int .i64, 1, 8, .cells [.int .i64 0], false⟩),
  (163, ⟨.func, 1, 8, .cells [.nilFunc], false⟩),
  (164, ⟨.ptr, 1, 8, .cells [.pointer none], false⟩),
  (165, ⟨.func, 1, 8, .cells [.nilFunc], false⟩),
  (166, ⟨.func, 1, 8, .cells [.nilFunc], false⟩),
  (167, ⟨.func, 1, 8, .cells [.nilFunc], false⟩),
  (168, ⟨.func, 1, 8, .cells [.nilFunc], false⟩),
  (169, ⟨.func, 1, 8, .cells [.nilFunc], false⟩),
  (170, ⟨.func, 1, 8, .cells [.nilFunc], false⟩),
  (171, ⟨.struct [(0, 9), (1, 9), (2, 48)], 3, 48, .cells [.string ⟨#[]⟩, .string ⟨#[]⟩, .nilIface], false⟩),
  (172, ⟨.struct [(0, 9), (1, 9), (2, 48)], 3, 48, .cells [.string ⟨#[]⟩, .string ⟨#[]⟩, .nilIface], false⟩),
  (173, ⟨.func, 1, 8, .cells [.nilFunc], false⟩),
  (174, ⟨.arr 32 5, 32, 32, .ints .u8 (List.replicate 32 0), true⟩),
  (175, ⟨.arr 64 5, 64, 64, .ints .u8 (List.replicate 64 0), true⟩),
  (176, ⟨.arr 256 5, 256, 256, .ints .u8 (List.replicate 256 0), true⟩),
  (177, ⟨.struct [(0, 5), (1, 5)], 2, 2, .cells [.int .u8 0, .int .u8 0], true⟩),
  (178, ⟨.struct [(0, 5), (1, 5)], 2, 2, .cells [.int .u8 0, .int .u8 0], true⟩),
  (179, ⟨.arr 16 178, 32, 32, .cells [.int .u8 0, .int .u8 0, .int .u8 0, .int .u8 0, .int .u8 0, .int .u8 0, .int .u8 0, .int .u8 0, .int .u8 0, .int .u8 0, .int .u8 0, .int .u8 0, .int .u8 0, .int .u8 0, .int .u8 0, .int .u8 0, .int .u8 0, .int .u8 0, .int .u8 0, .int .u8 0, .int .u8 0, .int .u8 0, .int .u8 0, .int .u8 0, .int .u8 0, .int .u8 0, .int .u8 0, .int .u8 0, .int .u8 0, .int .u8 0, .int .u8 0, .int .u8 0], false⟩),
  (180, ⟨.func, 1, 8, .cells [.nilFunc], false⟩),
  (181, ⟨.ptr, 1, 8, .cells [.pointer none], false⟩),
  (182, ⟨.struct [(0, 9)], 1, 16, .cells [.string ⟨#[]⟩], false⟩),
  (183, ⟨.struct [(0, 9)], 1, 16, .cells [.string ⟨#[]⟩], false⟩),
  (184, ⟨.struct [(0, 17), (1, 17), (2, 17), (3, 9)], 4, 40, .cells [.pointer none, .pointer none, .pointer none, .string ⟨#[]⟩], false⟩),
  (185, ⟨.struct [(0, 17), (1, 17), (2, 17), (3, 9)], 4, 40, .cells [.pointer none, .pointer none, .pointer none, .string ⟨#[]⟩], false⟩),
  (186, ⟨.arr 0 16, 0, 0, .cells [], false⟩),
  (187, ⟨.struct [(0, 186)], 0, 0, .cells [], false⟩),
  (188, ⟨.struct [(0, 186)], 0, 0, .cells [], false⟩),
  (189, ⟨.func, 1, 8, .cells [.nilFunc], false⟩),
  (190, ⟨.int .u8, 1, 1, .cells [.int .u8 0], false⟩),
  (191, ⟨.int .u8, 1, 1, .cells [.int .u8 0], false⟩),
  (192, ⟨.func, 1, 8, .cells [.nilFunc], false⟩),
  (193, ⟨.int .i32, 1, 4, .cells [.int .i32 0], false⟩),
  (194, ⟨.int .i32, 1, 4, .cells [.int .i32 0], false⟩),
  (195, ⟨.struct [(0, 12), (1, 12), (2, 150), (3, 190), (4, 5), (5, 5), (6, 191), (7, 192), (8, 110), (9, 193), (10, 194)], 11, 48, .cells [.int .u64 0, .int .u64 0, .int .u32 0, .int .u8 0, .int .u8 0, .int .u8 0, .int .u8 0, .nilFunc, .pointer none, .int .i32 0, .int .i32 0], false⟩),
  (196, ⟨.struct [(0, 12), (1, 12), (2, 150), (3, 190), (4, 5), (5, 5), (6, 191), (7, 192), (8, 110), (9, 193), (10, 194)], 11, 48, .cells [.int .u64 0, .int .u64 0, .int .u32 0, .int .u8 0, .int .u8 0, .int .u8 0, .int .u8 0, .nilFunc, .pointer none, .int .i32 0, .int .i32 0], false⟩)]
set_option maxRecDepth 100000 in
theorem tbl_ok : tbl.ok Tryz.prog = true := by kernel_rfl
def bodies : List Nat := [3, 4, 5, 6, 7, 8, 9, 10, 11, 12, 13, 14, 15, 16, 17, 18, 19, 20, 21, 22, 23, 24, 25, 26, 27, 28, 29, 30, 31, 32, 33, 34, 35, 36, 37, 38, 39, 40, 41, 42, 43, 44, 45, 46, 47, 48, 49, 50, 51, 52, 53, 54, 55, 56, 57, 58, 59, 60, 61, 62, 63, 64, 65, 66, 67, 68, 69, 70, 72, 73, 74, 75, 76, 77, 78, 79, 80, 81, 82, 83, 84, 85, 86, 90, 91, 92, 93, 94, 95, 96, 97, 98, 99, 100, 101, 102, 103, 104, 105, 106, 107, 111, 112, 114, 115, 116, 117, 118, 119, 120, 121, 122, 123, 124, 125, 126, 127, 128, 129, 130, 131, 132]
theorem bodies_ok : bodiesOk Tryz.prog bodies = true := by kernel_rfl
theorem mixed : Tryz.prog.follows .mixedOrders = true := by kernel_rfl
noncomputable abbrev code3 : Code := Tryz.f3.body.getD .skip
def dr3 : List (Nat × DE) := []
noncomputable abbrev code4 : Code := Tryz.f4.body.getD .skip
def dr4 : List (Nat × DE) := []
noncomputable abbrev code5 : Code := Tryz.f5.body.getD .skip
def dr5 : List (Nat × DE) := [(3, .s (.one 0 [1, 2, 3, 4, 5, 6, 7, 8, 9, 10, 11, 12, 13, 14, 15, 16, 17, 18, 19, 20, 21, 22, 23, 24, 25, 26] (.one 1 [2, 3, 4, 5, 6, 7, 8, 9, 10, 11, 12, 13, 14, 15, 16, 17, 18, 19, 20, 21, 22, 23, 24, 25, 26] (.one 5 [6, 7, 8, 9, 10, 11, 12, 13, 14, 15, 16, 17, 18, 19, 20, 21, 22, 23, 24, 25, 26] (.one 2 [4, 6, 7, 8, 9, 10, 11, 12, 13, 14, 15, 16, 17, 18, 19, 20, 21, 22, 23, 24, 25, 26] (.one 3 [4, 6, 7, 8, 9, 10, 11, 12, 13, 14, 15, 16, 17, 18, 19, 20, 21, 22, 23, 24, 25, 26] (.one 4 [] (.one 6 [7, 8, 9, 10, 11, 12, 13, 14, 15, 16, 17, 18, 19, 20, 21, 22, 23, 24, 25, 26] (.one 7 [8, 9, 10, 11, 12, 13, 14, 15, 16, 17, 18, 19, 20, 21, 22, 23, 24, 25, 26] (.one 8 [9, 10, 11, 12, 13, 14, 15, 16, 17, 18, 19, 20, 21, 22, 23, 24, 25, 26] (.one 12 [13, 14, 15, 16, 17, 18, 19, 20, 21, 22, 23, 24, 25, 26] (.one 9 [11, 13, 14, 15, 16, 17, 18, 19, 20, 21, 22, 23, 24, 25, 26] (.one 10 [11, 13, 14, 15, 16, 17, 18, 19, 20, 21, 22, 23, 24, 25, 26] (.one 11 [] (.one 13 [14, 15, 16, 17, 18, 19, 20, 21, 22, 23, 24, 25, 26] (.one 14 [15, 16, 17, 18, 19, 20, 21, 22, 23, 24, 25, 26] (.one 15 [16, 17, 18, 19, 20, 21, 22, 23, 24, 25, 26] (.one 16 [18, 19, 20, 21, 22, 23, 24, 25, 26] (.one 17 [18, 19, 20, 21, 22, 23, 24, 25, 26] (.one 18 [] (.one 19 [20, 21, 22, 23, 24, 25, 26] (.one 20 [21, 22, 23, 24, 25, 26] (.one 22 [23, 24, 25, 26] (.fork 21 (.one 23 [] (.one 24 [] (.one 25 [26] (.one 26 [] (.done))))) (.fork 23 (.one 21 [24, 25, 26] (.one 24 [] (.one 25 [26] (.one 26 [] (.done))))) (.stop))))))))))))))))))))))))))]
noncomputable abbrev code6 : Code := Tryz.f6.body.getD .skip
def dr6 : List (Nat × DE) := [(13, 19)]
noncomputable abbrev code7 : Code := Tryz.f7.body.getD .skip
def dr7 : List (Nat × DE) := []
noncomputable abbrev code8 : Code := Tryz.f8.body.getD .skip
def dr8 : List (Nat × DE) := [(4, 11)]
noncomputable abbrev code9 : Code := Tryz.f9.body.getD .skip
def dr9 : List (Nat × DE) := []
noncomputable abbrev code10 : Code := Tryz.f10.body.getD .skip
def dr10 : List (Nat × DE) := [(19, .s (.one 0 [2, 4, 5, 9, 10, 11, 12, 13, 15, 16] (.one 1 [2, 4, 5, 9, 10, 11, 12, 13, 15, 16] (.one 2 [4, 5, 9, 10, 11, 12, 13, 15, 16] (.one 3 [4, 5, 9, 10, 11, 12, 13, 15, 16] (.one 4 [5, 9, 10, 11, 12, 13, 15, 16] (.one 5 [9, 10, 11, 12, 13, 15, 16] (.one 6 [8, 9, 10, 11, 12, 13, 15, 16] (.one 7 [8, 9, 10, 11, 12, 13, 15, 16] (.one 8 [9, 10, 11, 12, 13, 15, 16] (.one 9 [10, 11, 12, 13, 15, 16] (.fork 10 (.one 11 [12, 13, 15, 16] (.one 12 [15, 16] (.one 13 [16] (.one 14 [] (.one 15 [] (.one 16 [] (.done))))))) (.fork 14 (.one 10 [] (.one 11 [12, 13, 15, 16] (.one 12 [15, 16] (.one 13 [16] (.one 15 [] (.one 16 [] (.done))))))) (.stop)))))))))))))), (23, 47)]
noncomputable abbrev code11 : Code := Tryz.f11.body.getD .skip
def dr11 : List (Nat × DE) := [(13, 12)]
noncomputable abbrev code12 : Code := Tryz.f12.body.getD .skip
def dr12 : List (Nat × DE) := []
noncomputable abbrev code13 : Code := Tryz.f13.body.getD .skip
def dr13 : List (Nat × DE) := [(3, .s (.one 0 [4, 8, 9, 10] (.one 5 [6, 7, 8, 9, 10] (.one 1 [3, 4, 8, 9, 10] (.one 2 [3, 4, 8, 9, 10] (.fork 3 (.fork 4 (.one 6 [7, 8, 9, 10] (.one 7 [8, 9, 10] (.one 8 [9, 10] (.one 9 [10] (.one 10 [] (.done)))))) (.fork 6 (.fork 4 (.one 7 [8, 9, 10] (.one 8 [9, 10] (.one 9 [10] (.one 10 [] (.done))))) (.fork 7 (.one 4 [] (.one 8 [9, 10] (.one 9 [10] (.one 10 [] (.done))))) (.stop))) (.stop))) (.fork 6 (.fork 3 (.fork 4 (.one 7 [8, 9, 10] (.one 8 [9, 10] (.one 9 [10] (.one 10 [] (.done))))) (.fork 7 (.one 4 [] (.one 8 [9, 10] (.one 9 [10] (.one 10 [] (.done))))) (.stop))) (.fork 7 (.one 3 [] (.one 4 [] (.one 8 [9, 10] (.one 9 [10] (.one 10 [] (.done)))))) (.stop))) (.stop))))))))]
noncomputable abbrev code14 : Code := Tryz.f14.body.getD .skip
def dr14 : List (Nat × DE) := []
noncomputable abbrev code15 : Code := Tryz.f15.body.getD .skip
def dr15 : List (Nat × DE) := [(5, 10)]
noncomputable abbrev code16 : Code := Tryz.f16.body.getD .skip
def dr16 : List (Nat × DE) := []
noncomputable abbrev code17 : Code := Tryz.f17.body.getD .skip
def dr17 : List (Nat × DE) := []
noncomputable abbrev code18 : Code := Tryz.f18.body.getD .skip
def dr18 : List (Nat × DE) := [(5, 9)]
noncomputable abbrev code19 : Code := Tryz.f19.body.getD .skip
def dr19 : List (Nat × DE) := []
noncomputable abbrev code20 : Code := Tryz.f20.body.getD .skip
def dr20 : List (Nat × DE) := [(6, 8)]
noncomputable abbrev code21 : Code := Tryz.f21.body.getD .skip
def dr21 : List (Nat × DE) := []
noncomputable abbrev code22 : Code := Tryz.f22.body.getD .skip
def dr22 : List (Nat × DE) := []
noncomputable abbrev code23 : Code := Tryz.f23.body.getD .skip
def dr23 : List (Nat × DE) := []
noncomputable abbrev code24 : Code := Tryz.f24.body.getD .skip
def dr24 : List (Nat × DE) := [(22, .s (.one 0 [6, 7, 8] (.one 1 [7, 8] (.one 2 [4, 5, 8] (.one 3 [4, 5, 8] (.one 4 [5, 8] (.fork 5 (.one 6 [] (.one 7 [8] (.one 8 [] (.done)))) (.fork 6 (.one 7 [8] (.one 5 [8] (.one 8 [] (.done)))) (.stop)))))))))]
noncomputable abbrev code25 : Code := Tryz.f25.body.getD .skip
def dr25 : List (Nat × DE) := [(9, .s (.one 0 [1, 5, 6, 7] (.one 2 [3, 4, 5, 6, 7] (.fork 1 (.one 3 [] (.one 4 [] (.one 5 [] (.one 6 [7] (.one 7 [] (.done)))))) (.fork 3 (.one 1 [5, 6, 7] (.one 4 [] (.one 5 [] (.one 6 [7] (.one 7 [] (.done)))))) (.stop)))))), (14, .s (.one 0 [9, 10] (.one 1 [6, 7, 8, 10] (.one 2 [4, 5, 6, 7, 8, 10] (.one 3 [4, 5, 6, 7, 8, 10] (.one 4 [5, 6, 7, 8, 10] (.fork 5 (.one 6 [7, 8, 10] (.fork 7 (.fork 8 (.one 9 [] (.one 10 [] (.done))) (.fork 9 (.one 8 [] (.one 10 [] (.done))) (.stop))) (.fork 9 (.one 7 [] (.one 8 [] (.one 10 [] (.done)))) (.stop)))) (.fork 9 (.one 5 [6, 7, 8, 10] (.one 6 [7, 8, 10] (.one 7 [] (.one 8 [] (.one 10 [] (.done)))))) (.stop)))))))))]
noncomputable abbrev code26 : Code := Tryz.f26.body.getD .skip
def dr26 : List (Nat × DE) := []
noncomputable abbrev code27 : Code := Tryz.f27.body.getD .skip
def dr27 : List (Nat × DE) := [(6, 10)]
noncomputable abbrev code28 : Code := Tryz.f28.body.getD .skip
def dr28 : List (Nat × DE) := [(6, 6)]
noncomputable abbrev code29 : Code := Tryz.f29.body.getD .skip
def dr29 : List (Nat × DE) := [(15, 13), (29, 10)]
noncomputable abbrev code30 : Code := Tryz.f30.body.getD .skip
def dr30 : List (Nat × DE) := []
noncomputable abbrev code31 : Code := Tryz.f31.body.getD .skip
def dr31 : List (Nat × DE) := []
noncomputable abbrev code32 : Code := Tryz.f32.body.getD .skip
def dr32 : List (Nat × DE) := []
noncomputable abbrev code33 : Code := Tryz.f33.body.getD .skip
def dr33 : List (Nat × DE) := []
noncomputable abbrev code34 : Code := Tryz.f34.body.getD .skip
def dr34 : List (Nat × DE) := []
noncomputable abbrev code35 : Code := Tryz.f35.body.getD .skip
def dr35 : List (Nat × DE) := [(2, 5), (8, 11)]
noncomputable abbrev code36 : Code := Tryz.f36.body.getD .skip
def dr36 : List (Nat × DE) := []
noncomputable abbrev code37 : Code := Tryz.f37.body.getD .skip
def dr37 : List (Nat × DE) := []
noncomputable abbrev code38 : Code := Tryz.f38.body.getD .skip
def dr38 : List (Nat × DE) := []
noncomputable abbrev code39 : Code := Tryz.f39.body.getD .skip
def dr39 : List (Nat × DE) := []
noncomputable abbrev code40 : Code := Tryz.f40.body.getD .skip
def dr40 : List (Nat × DE) := [(8, 7)]
noncomputable abbrev code41 : Code := Tryz.f41.body.getD .skip
def dr41 : List (Nat × DE) := [(1, .s (.one 0 [1, 2, 3, 4, 10, 11] (.one 1 [2, 3, 4, 10, 11] (.one 2 [3, 4, 10, 11] (.one 5 [6, 7, 8, 9, 10, 11] (.one 6 [7, 8, 9, 10, 11] (.one 7 [8, 9, 10, 11] (.one 3 [4, 10, 11] (.fork 4 (.one 8 [9, 10, 11] (.one 9 [10, 11] (.one 10 [] (.one 11 [] (.done))))) (.fork 8 (.fork 4 (.one 9 [10, 11] (.one 10 [] (.one 11 [] (.done)))) (.fork 9 (.one 4 [] (.one 10 [] (.one 11 [] (.done)))) (.stop))) (.stop)))))))))))]
noncomputable abbrev code42 : Code := Tryz.f42.body.getD .skip
def dr42 : List (Nat × DE) := []
noncomputable abbrev code43 : Code := Tryz.f43.body.getD .skip
def dr43 : List (Nat × DE) := []
noncomputable abbrev code44 : Code := Tryz.f44.body.getD .skip
def dr44 : List (Nat × DE) := [(7, 7), (24, 11)]
noncomputable abbrev code45 : Code := Tryz.f45.body.getD .skip
def dr45 : List (Nat × DE) := []
noncomputable abbrev code46 : Code := Tryz.f46.body.getD .skip
def dr46 : List (Nat × DE) := []
noncomputable abbrev code47 : Code := Tryz.f47.body.getD .skip
def dr47 : List (Nat × DE) := []
noncomputable abbrev code48 : Code := Tryz.f48.body.getD .skip
def dr48 : List (Nat × DE) := []
noncomputable abbrev code49 : Code := Tryz.f49.body.getD .skip
def dr49 : List (Nat × DE) := []
noncomputable abbrev code50 : Code := Tryz.f50.body.getD .skip
def dr50 : List (Nat × DE) := []
noncomputable abbrev code51 : Code := Tryz.f51.body.getD .skip
def dr51 : List (Nat × DE) := []
noncomputable abbrev code52 : Code := Tryz.f52.body.getD .skip
def dr52 : List (Nat × DE) := []
noncomputable abbrev code53 : Code := Tryz.f53.body.getD .skip
def dr53 : List (Nat × DE) := []
noncomputable abbrev code54 : Code := Tryz.f54.body.getD .skip
def dr54 : List (Nat × DE) := []
noncomputable abbrev code55 : Code := Tryz.f55.body.getD .skip
def dr55 : List (Nat × DE) := []
noncomputable abbrev code56 : Code := Tryz.f56.body.getD .skip
def dr56 : List (Nat × DE) := []
noncomputable abbrev code57 : Code := Tryz.f57.body.getD .skip
def dr57 : List (Nat × DE) := []
noncomputable abbrev code58 : Code := Tryz.f58.body.getD .skip
def dr58 : List (Nat × DE) := []
noncomputable abbrev code59 : Code := Tryz.f59.body.getD .skip
def dr59 : List (Nat × DE) := []
noncomputable abbrev code60 : Code := Tryz.f60.body.getD .skip
def dr60 : List (Nat × DE) := []
noncomputable abbrev code61 : Code := Tryz.f61.body.getD .skip
def dr61 : List (Nat × DE) := []
noncomputable abbrev code62 : Code := Tryz.f62.body.getD .skip
def dr62 : List (Nat × DE) := []
noncomputable abbrev code63 : Code := Tryz.f63.body.getD .skip
def dr63 : List (Nat × DE) := [(15, 11), (16, .s (.one 3 [4, 6] (.one 1 [2, 4, 5, 6] (.fork 0 (.one 2 [] (.one 4 [6] (.one 5 [] (.one 6 [] (.done))))) (.fork 2 (.one 4 [6] (.one 0 [5, 6] (.one 5 [] (.one 6 [] (.done))))) (.stop))))))]
noncomputable abbrev code64 : Code := Tryz.f64.body.getD .skip
def dr64 : List (Nat × DE) := [(3, 11)]
noncomputable abbrev code65 : Code := Tryz.f65.body.getD .skip
def dr65 : List (Nat × DE) := []
noncomputable abbrev code66 : Code := Tryz.f66.body.getD .skip
def dr66 : List (Nat × DE) := []
noncomputable abbrev code67 : Code := Tryz.f67.body.getD .skip
def dr67 : List (Nat × DE) := []
noncomputable abbrev code68 : Code := Tryz.f68.body.getD .skip
def dr68 : List (Nat × DE) := []
noncomputable abbrev code69 : Code := Tryz.f69.body.getD .skip
def dr69 : List (Nat × DE) := []
noncomputable abbrev code70 : Code := Tryz.f70.body.getD .skip
def dr70 : List (Nat × DE) := [(1, 13)]
noncomputable abbrev code72 : Code := Tryz.f72.body.getD .skip
def dr72 : List (Nat × DE) := []
noncomputable abbrev code73 : Code := Tryz.f73.body.getD .skip
def dr73 : List (Nat × DE) := []
noncomputable abbrev code74 : Code := Tryz.f74.body.getD .skip
def dr74 : List (Nat × DE) := [(1, 6)]
noncomputable abbrev code75 : Code := Tryz.f75.body.getD .skip
def dr75 : List (Nat × DE) := [(3, 12)]
noncomputable abbrev code76 : Code := Tryz.f76.body.getD .skip
def dr76 : List (Nat × DE) := []
noncomputable abbrev code77 : Code := Tryz.f77.body.getD .skip
def dr77 : List (Nat × DE) := []
noncomputable abbrev code78 : Code := Tryz.f78.body.getD .skip
def dr78 : List (Nat × DE) := [(4, 7)]
noncomputable abbrev code79 : Code := Tryz.f79.body.getD .skip
def dr79 : List (Nat × DE) := []
noncomputable abbrev code80 : Code := Tryz.f80.body.getD .skip
def dr80 : List (Nat × DE) := []
noncomputable abbrev code81 : Code := Tryz.f81.body.getD .skip
def dr81 : List (Nat × DE) := []
noncomputable abbrev code82 : Code := Tryz.f82.body.getD .skip
def dr82 : List (Nat × DE) := []
noncomputable abbrev code83 : Code := Tryz.f83.body.getD .skip
def dr83 : List (Nat × DE) := [(7, 12), (8, 12), (9, 12), (10, 12), (17, 12), (18, 12), (23, 12)]
noncomputable abbrev code84 : Code := Tryz.f84.body.getD .skip
def dr84 : List (Nat × DE) := []
noncomputable abbrev code85 : Code := Tryz.f85.body.getD .skip
def dr85 : List (Nat × DE) := [(0, 15)]
noncomputable abbrev code86 : Code := Tryz.f86.body.getD .skip
def dr86 : List (Nat × DE) := []
noncomputable abbrev code90 : Code := Tryz.f90.body.getD .skip
def dr90 : List (Nat × DE) := []
noncomputable abbrev code91 : Code := Tryz.f91.body.getD .skip
def dr91 : List (Nat × DE) := []
noncomputable abbrev code92 : Code := Tryz.f92.body.getD .skip
def dr92 : List (Nat × DE) := []
noncomputable abbrev code93 : Code := Tryz.f93.body.getD .skip
def dr93 : List (Nat × DE) := []
noncomputable abbrev code94 : Code := Tryz.f94.body.getD .skip
def dr94 : List (Nat × DE) := []
noncomputable abbrev code95 : Code := Tryz.f95.body.getD .skip
def dr95 : List (Nat × DE) := []
noncomputable abbrev code96 : Code := Tryz.f96.body.getD .skip
def dr96 : List (Nat × DE) := []
noncomputable abbrev code97 : Code := Tryz.f97.body.getD .skip
def dr97 : List (Nat × DE) := []
noncomputable abbrev code98 : Code := Tryz.f98.body.getD .skip
def dr98 : List (Nat × DE) := []
noncomputable abbrev code99 : Code := Tryz.f99.body.getD .skip
def dr99 : List (Nat × DE) := []
noncomputable abbrev code100 : Code := Tryz.f100.body.getD .skip
def dr100 : List (Nat × DE) := []
noncomputable abbrev code101 : Code := Tryz.f101.body.getD .skip
def dr101 : List (Nat × DE) := []
noncomputable abbrev code102 : Code := Tryz.f102.body.getD .skip
def dr102 : List (Nat × DE) := []
noncomputable abbrev code103 : Code := Tryz.f103.body.getD .skip
def dr103 : List (Nat × DE) := []
noncomputable abbrev code104 : Code := Tryz.f104.body.getD .skip
def dr104 : List (Nat × DE) := []
noncomputable abbrev code105 : Code := Tryz.f105.body.getD .skip
def dr105 : List (Nat × DE) := []
noncomputable abbrev code106 : Code := Tryz.f106.body.getD .skip
def dr106 : List (Nat × DE) := []
noncomputable abbrev code107 : Code := Tryz.f107.body.getD .skip
def dr107 : List (Nat × DE) := []
noncomputable abbrev code111 : Code := Tryz.f111.body.getD .skip
def dr111 : List (Nat × DE) := []
noncomputable abbrev code112 : Code := Tryz.f112.body.getD .skip
def dr112 : List (Nat × DE) := []
noncomputable abbrev code114 : Code := Tryz.f114.body.getD .skip
def dr114 : List (Nat × DE) := []
noncomputable abbrev code115 : Code := Tryz.f115.body.getD .skip
def dr115 : List (Nat × DE) := []
noncomputable abbrev code116 : Code := Tryz.f116.body.getD .skip
def dr116 : List (Nat × DE) := []
noncomputable abbrev code117 : Code := Tryz.f117.body.getD .skip
def dr117 : List (Nat × DE) := []
noncomputable abbrev code118 : Code := Tryz.f118.body.getD .skip
def dr118 : List (Nat × DE) := [(1, 5)]
noncomputable abbrev code119 : Code := Tryz.f119.body.getD .skip
def dr119 : List (Nat × DE) := [(1, 5)]
noncomputable abbrev code120 : Code := Tryz.f120.body.getD .skip
def dr120 : List (Nat × DE) := []
noncomputable abbrev code121 : Code := Tryz.f121.body.getD .skip
def dr121 : List (Nat × DE) := []
noncomputable abbrev code122 : Code := Tryz.f122.body.getD .skip
def dr122 : List (Nat × DE) := []
noncomputable abbrev code123 : Code := Tryz.f123.body.getD .skip
def dr123 : List (Nat × DE) := []
noncomputable abbrev code124 : Code := Tryz.f124.body.getD .skip
def dr124 : List (Nat × DE) := []
noncomputable abbrev code125 : Code := Tryz.f125.body.getD .skip
def dr125 : List (Nat × DE) := []
noncomputable abbrev code126 : Code := Tryz.f126.body.getD .skip
def dr126 : List (Nat × DE) := []
noncomputable abbrev code127 : Code := Tryz.f127.body.getD .skip
def dr127 : List (Nat × DE) := [(6, 6), (7, 8), (14, 10), (31, 10)]
noncomputable abbrev code128 : Code := Tryz.f128.body.getD .skip
def dr128 : List (Nat × DE) := []
noncomputable abbrev code129 : Code := Tryz.f129.body.getD .skip
def dr129 : List (Nat × DE) := []
noncomputable abbrev code130 : Code := Tryz.f130.body.getD .skip
def dr130 : List (Nat × DE) := []
noncomputable abbrev code131 : Code := Tryz.f131.body.getD .skip
def dr131 : List (Nat × DE) := []
noncomputable abbrev code132 : Code := Tryz.f132.body.getD .skip
def dr132 : List (Nat × DE) := []
end Go.Proofs.YtfjbgmeimipibaaGreatDoor
/- Mv: what comes in as an argument, opened, where its bulk is bounded: F holds of what was read; a slice that F holds of has at most X elements, and F holds of them. -/
namespace Go.Mv
open Go Go.RowKit Go.ChangeShapes
structure FitsOk (F : (H : Type) → DataW H → Prop) (X : Nat) : Prop where
  sl : ∀ {H : Type} {es sp : List (DataW H)}, F H (.slice es sp) → es.length ≤ X ∧ ∀ d, d ∈ es → F H d
  agg : ∀ {H : Type} {ps : List (DataW H)}, F H (.agg ps) → ∀ d, d ∈ ps → F H d
  str : ∀ {H : Type} {b : List UInt8}, F H (.lit (.string b)) → b.length ≤ X
def OpensB (P : Program) (w : World) (t : TypeId) {α : Type} (f : α → List Value) (Q : α → Prop) (F : (H : Type) → DataW H → Prop) : Prop :=
  ∀ {H : Type} {enc : TypeId × Value → H} {base : Nat} {sp : Nat → Bool} {held : Bool} {fuel : Nat} {cs : List Value} {r : DataW H × List MemPlace}, DataW.trod enc P w base sp held fuel t cs = some r → F H r.1 → ∃ x, cs = f x ∧ Q x
section
variable {P : Program} {w : World} {t e : TypeId} {F : (H : Type) → DataW H → Prop} {X : Nat}
theorem Opens.b {α : Type} {f : α → List Value} {Q : α → Prop} (h : Opens P w t f Q) : OpensB P w t f Q F := fun h1 _ => h h1
theorem opensB_string (hF : FitsOk F X) (ht : P.underlying t = some .string) : OpensB P w t (fun s : ByteArray => [.string s]) (fun s => s.size ≤ X) F := by
  intro H enc base sp held fuel cs r h h1
  obtain ⟨s, h2, rfl, h3⟩ := DataW.trod_string ht h
  have := hF.str h1
  exact ⟨s, h2, by simpa using this⟩
theorem opensB_array {n : Nat} {α : Type} {f : α → List Value} {Q : α → Prop} (hF : FitsOk F X) (ht : P.underlying t = some (.array n e)) (hs : P.cellsOf t = n * P.cellsOf e) (he : OpensB P w e f Q F) : OpensB P w t (fun xs : List α => xs.flatMap f) (fun xs => xs.length = n ∧ ∀ x, x ∈ xs → Q x) F := by
  intro H enc base sp held fuel cs r h h1
  obtain ⟨ys, m, _, rfl, hl, hlen, hel⟩ := DataW.trod_array ht h
  obtain ⟨xs, g1, g2, g3⟩ := chunks (k := P.cellsOf e) n (cs := cs) (by rw [hl, hs]) (f := f) (Q := Q) fun i hi => by
    have h0 := hel i hi
    rw [List.getElem?_eq_getElem (by omega)] at h0
    exact he h0 (hF.agg h1 _ (List.mem_map_of_mem (List.getElem_mem _)))
  exact ⟨xs, g2, g1, g3⟩
def OpensFB (P : Program) (w : World) (fs : List Field) (off : Nat) {α : Type} (f : α → List Value) (Q : α → Prop) (F : (H : Type) → DataW H → Prop) : Prop :=
  ∀ {H : Type} {enc : TypeId × Value → H} {base : Nat} {sp : Nat → Bool} {held : Bool} {fuel : Nat} {cs : List Value} {n : Nat}, cs.length = n → off + (fs.map fun x => P.cellsOf x.type).sum = n →
    (∀ x, x ∈ fs → ∃ r, DataW.trod enc P w base sp held fuel x.type ((cs.drop x.offset).take (P.cellsOf x.type)) = some r ∧ F H r.1) → ∃ x, cs.drop off = f x ∧ Q x
theorem opensB_nil {off : Nat} : OpensFB P w [] off (fun _ : Unit => []) (fun _ => True) F := by
  intro H enc base sp held fuel cs n h1 h2 _
  refine ⟨(), ?_, trivial⟩
  simp at h2
  exact List.drop_eq_nil_of_le (by omega)
theorem opensB_cons {off : Nat} {x : Field} {fs : List Field} {α β : Type} {f : α → List Value} {Q : α → Prop} {g : β → List Value} {R : β → Prop} (ho : x.offset = off) (hx : OpensB P w x.type f Q F) (hr : OpensFB P w fs (off + P.cellsOf x.type) g R F) :
    OpensFB P w (x :: fs) off (fun y : α × β => f y.1 ++ g y.2) (fun y => Q y.1 ∧ R y.2) F := by
  intro H enc base sp held fuel cs n h1 h2 h
  obtain ⟨r, h3, h3'⟩ := h x (by simp)
  obtain ⟨a, h4, h5⟩ := hx h3 h3'
  obtain ⟨b, h6, h7⟩ := hr h1 (by rw [← h2, List.map_cons, List.sum_cons]; omega) fun y hy => h y (by simp [hy])
  refine ⟨(a, b), ?_, h5, h7⟩
  simp only
  rw [← h4, ← h6, ho, ← List.drop_drop, List.take_append_drop]
theorem opensB_struct {fs : Array Field} {α : Type} {f : α → List Value} {Q : α → Prop} (hF : FitsOk F X) (ht : P.underlying t = some (.struct fs)) (hs : (fs.toList.map fun x => P.cellsOf x.type).sum = P.cellsOf t) (hf : OpensFB P w fs.toList 0 f Q F) : OpensB P w t f Q F := by
  intro H enc base sp held fuel cs r h h1
  obtain ⟨xs, n, _, rfl, hl, hlen, hfl⟩ := DataW.trod_struct ht h
  have := hf (n := P.cellsOf t) hl (by rw [Nat.zero_add, hs]) fun x hx => by
    obtain ⟨i, hi⟩ := List.mem_iff_getElem?.1 hx
    have h0 := hfl i x (by simpa using hi)
    have hlt : i < xs.length := by
      have := (List.getElem?_eq_some_iff.1 hi).1
      rw [hlen]
      simpa using this
    rw [List.getElem?_eq_getElem hlt] at h0
    exact ⟨_, h0, hF.agg h1 _ (List.mem_map_of_mem (List.getElem_mem _))⟩
  simpa using this
theorem opensB_slice {α : Type} {f : α → List Value} {Q : α → Prop} (hF : FitsOk F X) (ht : P.underlying t = some (.slice e)) (he : OpensB P w e f Q F) (hl : ∀ x, Q x → (f x).length = P.cellsOf e) :
    OpensB P w t (fun s : Option Addr × Nat × Nat × List α => [.slice s.1 s.2.1 s.2.2.1]) (fun s => IsSl w f Q s.1 s.2.1 s.2.2.1 s.2.2.2 ∧ s.2.1 ≤ X) F := by
  intro H enc base sp held fuel cs r h h9
  rcases DataW.trod_slice ht h with ⟨hcs, _⟩ | ⟨x, len, cap, elems, rest, m, _, hcs, rfl, hb, hlc, hm, hlen, hel, _, _⟩
  · exact ⟨(none, 0, 0, []), hcs, ⟨rfl, Nat.le_refl _, Nat.zero_le _, Rd.nil, fun x h => by cases h⟩, Nat.zero_le _⟩
  · obtain ⟨hX, hall⟩ := hF.sl h9
    have hX : len ≤ X := by rw [List.length_map, hlen] at hX; exact hX
    have one : ∀ i, i < len → ∃ y, Q y ∧ w.cells? base (x.add (i * P.cellsOf e)) (P.cellsOf e) = some (f y) := by
      intro i hi
      have h0 := hel i hi
      rw [List.getElem?_eq_getElem (by omega), Option.bind_eq_some_iff] at h0
      obtain ⟨cs', h1, h2⟩ := h0
      obtain ⟨y, rfl, hq⟩ := he h2 (hall _ (List.mem_map_of_mem (List.getElem_mem _)))
      exact ⟨y, hq, h1⟩
    have key : ∀ k, k ≤ len → ∃ zs : List α, zs.length = k ∧ (∀ y, y ∈ zs → Q y) ∧ ∀ (i : Nat) v, (zs.flatMap f)[i]? = some v → w.cell? (x.add i) = some v := by
      intro k
      induction k with
      | zero => exact fun _ => ⟨[], rfl, fun y h => (by cases h), fun i v h => by simp at h⟩
      | succ k ih =>
        intro hk'
        obtain ⟨zs, h1, h2, h3⟩ := ih (by omega)
        obtain ⟨y, hq, h4⟩ := one k (by omega)
        have hfl : (zs.flatMap f).length = k * P.cellsOf e := by
          rw [← h1]
          clear h1 h3
          induction zs with
          | nil => simp
          | cons z r ih2 => rw [List.flatMap_cons, List.length_append, hl z (h2 z (by simp)), ih2 fun y hy => h2 y (by simp [hy]), List.length_cons, Nat.add_mul]; omega
        refine ⟨zs ++ [y], by simp [h1], fun q hq' => ?_, fun i v hv => ?_⟩
        · rcases List.mem_append.1 hq' with h | h
          · exact h2 q h
          · rw [List.mem_singleton] at h; subst h; exact hq
        · rw [List.flatMap_append, List.flatMap_cons, List.flatMap_nil, List.append_nil] at hv
          rcases Nat.lt_or_ge i (k * P.cellsOf e) with hi | hi
          · rw [List.getElem?_append_left (by omega)] at hv
            exact h3 i v hv
          · rw [List.getElem?_append_right (by omega), hfl] at hv
            obtain ⟨_, h5⟩ := World.cells?_some h4
            have hilt := (List.getElem?_eq_some_iff.1 hv).1
            have := h5.2 (i - k * P.cellsOf e) (by rw [hl y hq] at hilt; exact hilt)
            rw [add_add, show k * P.cellsOf e + (i - k * P.cellsOf e) = i by omega] at this
            rw [this]
            exact hv
    obtain ⟨zs, h1, h2, h3⟩ := key len (Nat.le_refl _)
    refine ⟨(some x, len, cap, zs), hcs, ⟨h1, hlc, hm, .inr ⟨x, rfl, fun k v hk => ?_⟩, h2⟩, hX⟩
    rw [whole_cell]
    exact h3 k v hk
end
end Go.Mv
/- Mv: operations that are asked of as the machine does them: a text gone over, conversions, bytes behind a slice. -/
namespace Go.Mv
open Go
section
variable {P : Program} {m : Mem} {K : Value → Mem → Prop}
theorem RunP.pure {s : Sem Value} {v : Value} (h : ∀ w, m.sub w → s.run P w = .ok v w) (hk : K v m) : RunP P s m K := fun w hw => ⟨v, w, m, h w hw, hk, Frame.refl hw⟩
theorem NextP.pure {s : Sem Next} {v : Value} (h : ∀ w, m.sub w → s.run P w = .ok (.value v) w) (hk : K v m) : NextP P s m K := fun w hw => ⟨v, w, m, h w hw, hk, Frame.refl hw⟩
theorem sub_fresh {w : World} (hw : m.sub w) : m w.heap.size = none := by
  cases hm : m w.heap.size with
  | none => rfl
  | some o => exact absurd (Mem.sub_lt hw (b := w.heap.size) (by rw [hm]; simp)) (Nat.lt_irrefl _)
theorem range_str {t : TypeId} (ht : P.underlying t = some .string) {s : ByteArray} (h : ∀ (b : Nat) (m2 : Mem), m b = none → m2 = m.set b (.stringIter s 0) → K (.pointer (some ⟨b, 0, none⟩)) m2) : RunP P (Instr.range t (.string s)) m K :=
  fun w hw => ⟨_, _, _, run_range_string w t s ht, h _ _ (sub_fresh hw) rfl, Frame.alloc (Frame.refl hw) _⟩
theorem Frame.setObj {w : World} (hw : m.sub w) {b : Nat} {o : Obj} (hb : m b ≠ none) : Frame m w (m.set b o) { w with heap := w.heap.setIfInBounds b o } := by
  refine ⟨rfl, ⟨rfl, .refl⟩, rfl, by simp, fun c o' hc => ?_, fun c hc hn => ?_, fun c hc => ?_⟩
  · have hlt := Mem.sub_lt hw hb
    by_cases hcb : c = b
    · subst hcb
      simp only [Mem.set, if_true] at hc
      show (w.heap.setIfInBounds c o)[c]? = _
      rw [Array.getElem?_setIfInBounds_self_of_lt hlt, hc]
    · rw [Mem.set_ne hcb] at hc
      show (w.heap.setIfInBounds b o)[c]? = _
      rw [Array.getElem?_setIfInBounds_ne (Ne.symm hcb)]
      exact hw c o' hc
  · have hcb : b ≠ c := by rintro rfl; exact hb hn
    show (w.heap.setIfInBounds b o)[c]? = _
    rw [Array.getElem?_setIfInBounds_ne hcb]
  · by_cases hcb : c = b
    · subst hcb; exact .inl hb
    · rw [Mem.set_ne hcb] at hc; exact .inl hc
theorem next_str {b pos : Nat} {s : ByteArray} {ty : TypeId} (hb : m b = some (.stringIter s pos))
    (h1 : pos < s.size → ∀ m2 : Mem, m2 = m.set b (.stringIter s (pos + (Utf8.decode s pos).2)) → K (.tuple #[.bool true, .int .i64 ((pos : Nat) : Int), .int .i32 (((Utf8.decode s pos).1 : Nat) : Int)]) m2)
    (h2 : ¬ pos < s.size → K (.tuple #[.bool false]) m) : RunP P (Instr.next (.pointer (some ⟨b, 0, none⟩)) true ty) m K := by
  intro w hw
  have hh := hw b _ hb
  by_cases hp : pos < s.size
  · refine ⟨_, _, _, ?_, h1 hp _ rfl, Frame.setObj hw (by rw [hb]; simp)⟩
    simp [Instr.next, getObj, setObj, Sem.run, hh, hp, goInt, Result.andThen]
  · refine ⟨_, w, m, ?_, h2 hp, Frame.refl hw⟩
    simp [Instr.next, getObj, Sem.run, hh, hp]
theorem conv_str {s d : TypeId} {k : IntKind} {n : Int} (hs : (P.underlying s).isSome = true) (hd : P.underlying d = some .string) (h : K (.string (Utf8.encode n)) m) : RunP P (Go.convert s d (.int k n)) m K :=
  RunP.pure (fun w _ => run_convert_int_string w s d k n hs hd) h
end
theorem Sep.free {A : Asn} {R : List Asn} {m : Mem} (h : Sep R m) (hA : A Mem.empty) : Sep (A :: R) m := ⟨Mem.empty, m, fun _ => .inl rfl, fun _ _ hh => (by cases hh), Mem.le_refl _, hA, h⟩
/-- What an append of a text asks. -/
def AppOkS (T : Tbl) (e : Nat) (m : Mem) (A : Option Addr) (n c j : Nat) (news olds : List Value) : Prop :=
  news.length = j * (T.at e).size ∧
  (n + j ≤ c → A = none ∨ ∃ p, A = some p ∧ m.room (p.add (n * (T.at e).size)) (j * (T.at e).size) ∧ oneCells news = true) ∧
  (c < n + j → Nat.blt 0 (T.at e).bytes = true ∧ Builtin.nextslicecap (n + j) c * (T.at e).bytes ≤ 2 ^ 48 ∧ olds.length = n * (T.at e).size ∧ ((n * (T.at e).size = 0 ∧ A = none) ∨ ∃ p, A = some p ∧ m.holds p olds))
theorem Sep.appS {T : Tbl} {e : Nat} {L : List Asn} {m : Mem} (h : Sep L m) (j : Nat) {A : Option Addr} {n c : Nat} {vs : List Value} (hj : L[j]? = some (sl A n c (T.at e).size vs)) {k : Nat} {news : List Value}
    (hn : news.length = k * (T.at e).size) (one : oneCells news = true) (hbytes : Nat.blt 0 (T.at e).bytes = true) (hcap : 2 * (n + k) * (T.at e).bytes ≤ 2 ^ 48) (hz : (T.at e).zero.list.length = (T.at e).size) :
    AppOkS T e m A n c k news vs ∧ ∀ A' c' m2, AppR T e m A n c k news vs A' c' m2 → Sep (L.set j (sl A' (n + k) c' (T.at e).size (vs ++ news))) m2 := by
  have hA := h.asn j hj
  have hlen := hA.1
  have hnc := hA.2.1
  refine ⟨⟨hn, fun hle => ?_, fun hlt => ⟨hbytes, ?_, hlen, sl_olds hA⟩⟩, fun A' c' m2 hR => ?_⟩
  · obtain ⟨h1, h2, h3⟩ := hA
    rcases h3 with ⟨rfl, rfl⟩ | ⟨b, o, l, e', rfl, k2, k3, k4⟩
    · exact .inl rfl
    · refine .inr ⟨_, rfl, ?_, one⟩
      rw [add_mk]
      refine Blk.room ⟨e', k2⟩ ?_
      have := Nat.mul_le_mul_right (T.at e).size hle
      rw [Nat.add_mul] at this
      omega
  · exact Nat.le_trans (Nat.mul_le_mul_right _ (nextslicecap_le hlt)) hcap
  · rcases hR with ⟨hle, rfl, rfl, hR⟩ | ⟨hlt, b, hcap', hb, rfl, rfl⟩
    · rcases hR with ⟨hA0, rfl⟩ | ⟨p, hp, rfl⟩
      · refine h.turn j hj fun m1 hm g => ?_
        obtain ⟨g1, g2, g3⟩ := g
        rcases g3 with ⟨_, g4⟩ | ⟨b', o', l', e', hh, _⟩
        · have hk0 : k = 0 := by omega
          subst hk0
          have : news = [] := List.length_eq_zero_iff.1 (by rw [hn, Nat.zero_mul])
          subst this
          exact ⟨by simpa using g1, by omega, .inl ⟨hA0, g4⟩⟩
        · rw [hA0] at hh; cases hh
      · obtain ⟨h1, h2, h3⟩ := hA
        rcases h3 with ⟨hh, _⟩ | ⟨b, o, l, e', hh, k2, k3, k4⟩
        · rw [hh] at hp; cases hp
        · rw [hh] at hp
          cases hp
          subst hh
          rw [add_mk]
          refine h.puts j hj (fun m1 hm g => ?_) fun m1 hm g => ?_
          · obtain ⟨g1, g2, g3⟩ := g
            rcases g3 with ⟨hh, _⟩ | ⟨b', o', l', e', hh, q2, _⟩
            · cases hh
            · cases hh
              rw [q2]
              simp
          · obtain ⟨g1, g2, g3⟩ := g
            rcases g3 with ⟨hh, _⟩ | ⟨b', o', l', e', hh, q2, q3, q4⟩
            · cases hh
            · cases hh
              have h5 := Nat.mul_le_mul_right (T.at e).size hle
              rw [Nat.add_mul] at h5
              obtain ⟨e2, h4⟩ := Blk.puts (i := o + n * (T.at e).size) (j := 0) news (m := m1) (b := b) (l := l') ⟨e', q2⟩
              refine ⟨by rw [List.length_append, g1, hn, Nat.add_mul], hle, .inr ⟨b, o, _, e2, rfl, h4, by rw [writeAt_len]; exact q3, fun i u hu => ?_⟩⟩
              rw [Nat.add_zero, writeAt_get _ _ _ _ (by omega)]
              rcases Nat.lt_or_ge i vs.length with hi | hi
              · rw [List.getElem?_append_left hi] at hu
                rw [if_neg (by omega)]
                exact q4 i u hu
              · rw [List.getElem?_append_right hi] at hu
                have := (List.getElem?_eq_some_iff.1 hu).1
                rw [if_pos (by omega), show o + i - (o + n * (T.at e).size) = i - vs.length by omega]
                exact hu
    · have h1 := (h.new (e := e) (l := vs ++ news ++ (zerosOf T e (c' - (n + k))).list) hb).drop (j + 1)
      have h2 : Sep (pt b (vs ++ news ++ (zerosOf T e (c' - (n + k))).list) :: L.eraseIdx j) (m.set b (.cells (vs ++ news ++ (zerosOf T e (c' - (n + k))).list).toArray e (0, 0))) := h1
      rw [← eraseIdx_insert hj]
      refine Sep.back (h2.turn 0 rfl fun m1 hm ⟨e', g⟩ => ?_) (len_erase hj)
      refine ⟨by rw [List.length_append, hlen, hn, Nat.add_mul], hcap', .inr ⟨b, 0, _, e', rfl, g, ?_, fun i u hu => ?_⟩⟩
      · rw [List.length_append, List.length_append, hlen, hn, zeros_len hz, ← Nat.add_mul, ← Nat.add_mul]
        rw [Nat.zero_add]
        exact Nat.mul_le_mul_right _ (by omega)
      · rw [Nat.zero_add, List.getElem?_append_left (List.getElem?_eq_some_iff.1 hu).1]
        exact hu

theorem Frame.stores {P : Program} {m0 : Mem} {w0 : World} : ∀ (vs : List Value) (m : Mem) (w : World) (p : Addr) (i n : Nat), Frame m0 w0 m w → m.room p n → i + vs.length ≤ n → oneCells vs = true →
    ∃ w', (Go.storeCells p vs i).run P w = .ok () w' ∧ Frame m0 w0 (m.setCells p i vs) w'
  | [], m, w, p, i, n, h, _, _, _ => ⟨w, rfl, h⟩
  | v :: vs, m, w, p, i, n, h, hr, hl, ho => by
    simp only [oneCells, Bool.and_eq_true] at ho
    simp at hl
    obtain ⟨⟨u, hu⟩, hf⟩ := hr i (by omega)
    have h1 := run_store1 (P := P) ho.1 (Mem.sub_cell h.sub hu) (by rw [Mem.sub_fz h.sub hu]; exact hf)
    have h2 := h.setCell v (Mem.cell_dom hu)
    obtain ⟨w', hw, h3⟩ := Frame.stores vs (m.setCell (p.add i) v) _ p (i + 1) n h2 (room_setCell hr) (by omega) ho.2
    refine ⟨w', ?_, h3⟩
    simp only [Go.storeCells, Sem.run_bind, h1, Result.andThen_ok]
    exact hw
theorem append_str {P : Program} {T : Tbl} {m : Mem} {K : Value → Mem → Prop} (hT : T.ok P = true) {t u e ty : Nat} {cs : Array Bool} (ht : (T.at t).k = .slice e) (hu : (T.at u).k = .str) (hs1 : (T.at e).size = 1) {A : Option Addr} {n c : Nat} {s : ByteArray} {olds : List Value}
    (hok : AppOkS T e m A n c s.size (byteVals s.data.toList) olds) (hK : ∀ A' c' m2, AppR T e m A n c s.size (byteVals s.data.toList) olds A' c' m2 → K (.slice A' (n + s.size) c') m2) :
    NextP P (builtin .append #[t, u] ty cs #[.slice A n c, .string s]) m K := by
  intro w hw
  obtain ⟨hn, hroom, hgrow⟩ := hok
  have hut := under_slice (Tbl.fact hT (t := t) (by rw [ht]; simp)) ht
  have huu := under_str (Tbl.fact hT (t := u) (by rw [hu]; simp)) hu
  have hfe := tyfact_of_size hT (t := e) (by omega)
  obtain ⟨inf, hinf, hb, hs⟩ := hfe.typeInfo w
  have hcells : Lib.strCells s = byteVals s.data.toList := rfl
  have hfc := fun w => Lib.run_firstCells_string (P := P) w 1 s
  by_cases hle : n + s.size ≤ c
  · have hrun0 : ∀ w', (match A with | some p => Go.storeCells (p.add (n * (T.at e).size)) (byteVals s.data.toList) | none => pure ()).run P w = .ok () w' →
        (Builtin.append_ #[t, u] ty #[.slice A n c, .string s]).run P w = .ok (.slice A (n + s.size) c) w' := by
      intro w' hw'
      simp only [Builtin.append_]
      simp only [List.getElem?_toArray, List.getElem?_cons_zero, List.getElem?_cons_succ, Sem.run_bind, run_underlying hut, run_underlying huu, hfe.size w, Result.andThen_ok, Sem.run_pure]
      simp only [Bool.false_eq_true, if_false, Builtin.lenOf, Sem.run_pure, Result.andThen_ok, hle, if_true, Bool.not_false, Sem.run_bind, hs1, hfc, hcells]
      cases A with
      | none => simpa using hw'
      | some p =>
        simp only [hs1] at hw'
        simp only [Sem.run_bind, hw', Result.andThen_ok, Sem.run_pure]
    rcases hroom hle with rfl | ⟨p, rfl, hr, hone⟩
    · exact ⟨_, _, _, run_val (hrun0 w rfl), hK _ _ _ (.inl ⟨hle, rfl, rfl, .inl ⟨rfl, rfl⟩⟩), Frame.refl hw⟩
    · obtain ⟨w', h1, h2⟩ := Frame.stores (P := P) (byteVals s.data.toList) m w (p.add (n * (T.at e).size)) 0 _ (Frame.refl hw) hr (by rw [hn]; omega) hone
      exact ⟨_, _, _, run_val (hrun0 w' h1), hK _ _ _ (.inl ⟨hle, rfl, rfl, .inr ⟨p, rfl, rfl⟩⟩), h2⟩
  · obtain ⟨hby, hcap, hol, holds⟩ := hgrow (by omega)
    have hby : 0 < (T.at e).bytes := by have := Nat.le_of_ble_eq_true hby; omega
    obtain ⟨cap, hcapdef⟩ : ∃ cap, cap = (Question.appendCap (n + s.size) c e).cut (w.tape w.drawn (.appendCap (n + s.size) c e)) := ⟨_, rfl⟩
    have hcapge : n + s.size ≤ cap := by rw [hcapdef]; simp only [Question.cut]; omega
    obtain ⟨z, hz, hzl⟩ := zerosRest (P := P) hfe (cap - (n + s.size)) { w with drawn := w.drawn + 1 }
    have hsub' : m.sub { w with drawn := w.drawn + 1 } := hw
    have hfo := firstCells_slice (S := ⟨[], [], m⟩) (P := P) (c := c) hsub' hol holds
    have hF : Frame m w m { w with drawn := w.drawn + 1 } := (Frame.refl hw).drew (Nat.le_succ _)
    have hrun : (Builtin.append_ #[t, u] ty #[.slice A n c, .string s]).run P w =
        .ok (.slice (some ⟨w.heap.size, 0, none⟩) (n + s.size) cap) (World.alloc { w with drawn := w.drawn + 1 } (.cells (olds ++ byteVals s.data.toList ++ (zerosOf T e (cap - (n + s.size))).list).toArray e (0, 0))) := by
      simp only [Builtin.append_]
      simp only [List.getElem?_toArray, List.getElem?_cons_zero, List.getElem?_cons_succ, Sem.run_bind, run_underlying hut, run_underlying huu, hfe.size w, Result.andThen_ok, Sem.run_pure]
      simp only [Bool.false_eq_true, if_false, Builtin.lenOf, Sem.run_pure, Result.andThen_ok, hle, Bool.not_false, if_true, Sem.run_bind, hinf, hb]
      have hneg : ¬ (((n + s.size : Nat) : Int) > IntKind.i64.max ∧ (False ∨ (T.at e).bytes = 0)) := by
        rintro ⟨_, h | h⟩
        · exact h
        · omega
      rw [if_neg hneg]
      simp only [Sem.run_bind, Result.andThen_ok, hinf, hb]
      rw [if_neg (by omega)]
      simp only [Sem.run_bind, Sem.run_pure, Result.andThen_ok, run_choose, Question.forced, Bool.false_eq_true, if_false, ← hcapdef]
      have hinf' : (typeInfo e).run P { w with drawn := w.drawn + 1 } = .ok inf { w with drawn := w.drawn + 1 } := by
        obtain ⟨inf', h1, h2, h3⟩ := hfe.info
        simp only [typeInfo, Sem.run_bind, run_program, Result.andThen_ok, h1, Sem.run_pure] at hinf ⊢
        cases hinf
        rfl
      rw [hs1] at hfo
      simp only [hinf', Result.andThen_ok, run_askRoom, hs1, hfo, hfc, hcells, hz, Sem.run_pure, newRow, Sem.run_bind, run_newObj]
      have : olds.toArray ++ (byteVals s.data.toList).toArray ++ Builtin.zeroCells z.cells (cap - (n + s.size)) = (olds ++ byteVals s.data.toList ++ (zerosOf T e (cap - (n + s.size))).list).toArray := by
        apply Array.ext'
        simp [hzl]
      rw [this]
      rfl
    exact ⟨_, _, _, run_val hrun, hK _ _ _ (.inr ⟨by omega, w.heap.size, hcapge, sub_fresh hw, rfl, rfl⟩), hF.alloc _⟩
end Go.Mv
/- Mv: maps whose keys are texts. -/
namespace Go.Mv
open Go
abbrev MapL := List (ByteArray × Value)
def findL (k : ByteArray) : MapL → Option Value
  | [] => none
  | x :: r => if x.1 = k then some x.2 else findL k r
/-- The map at b: its entries in the order in which they came. -/
def mp (b : Nat) (l : MapL) : Asn := fun m => ∃ es clk, m b = some (.map es clk) ∧ es.toList.map (fun e => (e.key, e.val)) = l.map fun x => (Value.string x.1, x.2)
theorem find_str {k : ByteArray} : ∀ (es : List MapEntry) (l : MapL) (i : Nat), es.map (fun e => (e.key, e.val)) = l.map (fun x => (Value.string x.1, x.2)) →
    (findL k l = none ∧ Instr.findNow .string (.string k) es i = some none) ∨ ∃ v j, findL k l = some v ∧ Instr.findNow .string (.string k) es i = some (some (j, v))
  | [], [], i, _ => .inl ⟨rfl, rfl⟩
  | [], x :: l, i, h => by cases h
  | e :: es, [], i, h => by cases h
  | e :: es, x :: l, i, h => by
    simp only [List.map_cons, List.cons.injEq, Prod.mk.injEq] at h
    obtain ⟨⟨h1, h2⟩, h3⟩ := h
    have hs : Instr.sameNow .string (.string k) e.key = some (k == x.1) := by rw [h1]; rfl
    by_cases hk : k = x.1
    · right
      refine ⟨x.2, i, by unfold findL; rw [if_pos hk.symm], ?_⟩
      unfold Instr.findNow
      rw [hs, show (k == x.1) = true from (MapKept.bytes_beq k x.1).2 hk]
      simp only
      rw [h2]
    · have hb : (k == x.1) = false := by
        cases hq : k == x.1 with
        | false => rfl
        | true => exact absurd ((MapKept.bytes_beq k x.1).1 hq) hk
      have hf : findL k (x :: l) = findL k l := by
        show (if x.1 = k then some x.2 else findL k l) = _
        rw [if_neg (fun h => hk h.symm)]
      have hn : Instr.findNow .string (.string k) (e :: es) i = Instr.findNow .string (.string k) es (i + 1) := by
        rw [Instr.findNow, hs, hb]
      rw [hf, hn]
      exact find_str es l (i + 1) h3
theorem mp_at {L : List Asn} {m : Mem} {b : Nat} {l : MapL} (h : Sep L m) (j : Nat) (hj : L[j]? = some (mp b l)) : mp b l m := by
  obtain ⟨m1, h1, es, clk, h2, h3⟩ := h.get j hj
  exact ⟨es, clk, h1 _ _ h2, h3⟩
variable {P : Program} {m : Mem} {t kt et : TypeId}
theorem map_look {b : Nat} {l : MapL} {k : ByteArray} {z : Value} {K : Value → Mem → Prop} (h : mp b l m) (ht : P.underlying t = some (.map kt et)) (hk : P.underlying kt = some .string) (hz : ∀ w, (zeroValue et).run P w = .ok z w)
    (hK : K (.tuple #[(findL k l).getD z, .bool (findL k l).isSome]) m) : RunP P (Instr.lookup t (.map (some b)) (.string k) true) m K := by
  obtain ⟨es, clk, hb, hl⟩ := h
  refine fun w hw => ⟨_, w, m, ?_, hK, Frame.refl hw⟩
  have hb' := hw b _ hb
  have hc : ∀ e, (Instr.checkKey e 10000 kt (.string k)).run P w = .ok () w := fun e => MapKept.run_checkKey (k := .string k) hk (by simp [MapKept.IsKey]) e 9999
  rcases find_str (k := k) es.toList l 0 hl with ⟨h1, h2⟩ | ⟨v, j, h1, h2⟩
  · rw [h1]
    simp [Instr.lookup, run_underlying ht, MapKept.run_getObj_map hb', hc, MapKept.run_findKey hk h2, hz, Result.andThen]
  · rw [h1]
    simp [Instr.lookup, run_underlying ht, MapKept.run_getObj_map hb', hc, MapKept.run_findKey hk h2, Result.andThen]
theorem Sep.setObj {R : List Asn} {b : Nat} {o : Obj} {A B : Asn} (h : Sep (A :: R) m) (hA : ∀ m1, A m1 → m1 b ≠ none) (hB : ∀ m1 : Mem, m1 b = some o → B m1) : Sep (B :: R) (m.set b o) := by
  refine h.step 0 rfl fun m1 hm hA1 => ⟨m1.set b o, hB _ (by simp [Mem.set]), fun k o' hk => ?_, fun k hk => ?_, fun k o' hk hn => ?_⟩
  · by_cases hkb : k = b
    · subst hkb
      simpa [Mem.set] using hk
    · rw [Mem.set_ne hkb] at hk ⊢
      exact hm k o' hk
  · by_cases hkb : k = b
    · subst hkb
      exact .inl (hA m1 hA1)
    · rw [Mem.set_ne hkb] at hk
      exact .inl hk
  · rw [Mem.set_ne]
    · exact hk
    · rintro rfl
      exact hA m1 hA1 hn
theorem mp_some {b : Nat} {l : MapL} : ∀ m1 : Mem, mp b l m1 → m1 b ≠ none := fun m1 ⟨es, clk, h, _⟩ => by rw [h]; simp
/-- A new key. -/
theorem map_push {b : Nat} {l : MapL} {k : ByteArray} {v : Value} {R : List Asn} {K : Mem → Prop} (h : Sep (mp b l :: R) m) (ht : P.underlying t = some (.map kt et)) (hk : P.underlying kt = some .string) (hn : findL k l = none)
    (hK : ∀ m2, Sep (mp b (l ++ [(k, v)]) :: R) m2 → K m2) : RunU P (updRun t [.map (some b), .string k, v]) m K := by
  obtain ⟨es, clk, hb, hl⟩ := mp_at h 0 rfl
  have hfin := h.setObj (o := .map (es.push { key := .string k, val := v, born := clk }) (clk + 1)) (B := mp b (l ++ [(k, v)])) mp_some fun m1 h1 => ⟨_, _, h1, by simp [hl]⟩
  refine fun w hw => ⟨_, _, ?_, hK _ hfin, Frame.setObj hw (by rw [hb]; simp)⟩
  have hb' := hw b _ hb
  have hc : ∀ e, (Instr.checkKey e 10000 kt (.string k)).run P w = .ok () w := fun e => MapKept.run_checkKey (k := .string k) hk (by simp [MapKept.IsKey]) e 9999
  rcases find_str (k := k) es.toList l 0 hl with ⟨h1, h2⟩ | ⟨u, j, h1, h2⟩
  · show (Instr.mapUpdate t (.map (some b)) (.string k) v).run P w = _
    simp [Instr.mapUpdate, run_underlying ht, MapKept.run_getObj_map hb', hc, MapKept.run_findKey hk h2, MapKept.run_setObj_map _ hb', Result.andThen]
  · rw [hn] at h1
    cases h1
theorem map_clear {b : Nat} {l : MapL} {ty : TypeId} {cs : Array Bool} {R : List Asn} {K : Value → Mem → Prop} (h : Sep (mp b l :: R) m) (ht : P.underlying t = some (.map kt et))
    (hK : ∀ m2, Sep (mp b [] :: R) m2 → K (.tuple #[]) m2) : NextP P (builtin .clear #[t] ty cs #[.map (some b)]) m K := by
  obtain ⟨es, clk, hb, hl⟩ := mp_at h 0 rfl
  have hfin := h.setObj (o := .map #[] clk) (B := mp b []) mp_some fun m1 h1 => ⟨_, _, h1, rfl⟩
  refine fun w hw => ⟨_, _, _, ?_, hK _ hfin, Frame.setObj hw (by rw [hb]; simp)⟩
  have hb' := hw b _ hb
  simp [builtin, Builtin.clear_, run_underlying ht, MapKept.run_getObj_map hb', MapKept.run_setObj_map _ hb', Result.andThen]
theorem map_new {R : List Asn} {K : Value → Mem → Prop} (h : Sep R m) (hK : ∀ b m2, Sep (mp b [] :: R) m2 → K (.map (some b)) m2) : RunP P (Instr.makeMap t none) m K := by
  intro w hw
  have hf := sub_fresh hw
  refine ⟨.map (some w.heap.size), w.alloc (.map #[] 0), m.set w.heap.size (.map #[] 0), rfl, hK _ _ ?_, Frame.alloc (Frame.refl hw) _⟩
  refine ⟨fun k => if k = w.heap.size then some (.map #[] 0) else none, m, fun k => ?_, fun k o hk => ?_, Mem.le_set hf, ⟨_, _, if_pos rfl, rfl⟩, h⟩
  · by_cases hk : k = w.heap.size
    · exact .inr (hk ▸ hf)
    · exact .inl (if_neg hk)
  · simp only at hk
    split at hk
    · rename_i he
      subst he
      simpa [Mem.set] using hk
    · cases hk
end Go.Mv
/- Dfa: instructions; code.Right, code.Free. -/
namespace Go.Proofs.YtfjbgmeimipibaaGreatDoor
open Go Go.Mv
set_option maxHeartbeats 1000000
set_option maxRecDepth 10000
set_option linter.unusedVariables false
set_option linter.unusedSimpArgs false
attribute [local irreducible] FCalls IntKind.wrap bits Mem.set Mem.setCell Mem.setCells YCalls RunP NextP RunU
/-- An instruction. -/
structure Ins where
  op : Int
  x : Int
  y : Int
  n : Int
  mn : Int
  mx : Int
  s0 : Int
  s1 : Int
  s2 : Int
  s3 : Int
def Ins.cells (i : Ins) : List Value := [.int .i64 i.op, .int .i64 i.x, .int .i64 i.y, .int .i64 i.n, .int .i64 i.mn, .int .i64 i.mx, .int .u64 i.s0, .int .u64 i.s1, .int .u64 i.s2, .int .u64 i.s3]
theorem ins_len (i : Ins) : i.cells.length = 10 := rfl
def icells (l : List Ins) : List Value := l.flatMap Ins.cells
/-- A program as a value. -/
structure Prg where
  A : Option Addr
  c : Nat
  ins : List Ins
  groups : Int
  counters : Int
  fold : Bool
def Prg.cells (q : Prg) : List Value := [.slice q.A q.ins.length q.c, .int .i64 q.groups, .int .i64 q.counters, .bool q.fold]
def Prg.val (q : Prg) : Value := .agg q.cells.toArray
def Prg.at (m : Mem) (q : Prg) : Prop := Rd m q.A (icells q.ins)
/-- What an operation uses. -/
structure Uses where
  set : Bool
  x : Bool
  y : Bool
  g : Bool
  c : Bool
  n : Bool
def Uses.cells (u : Uses) : List Value := [.bool u.set, .bool u.x, .bool u.y, .bool u.g, .bool u.c, .bool u.n]
def usesOf (op : Int) : Option Uses :=
  if op = 1 then some ⟨true, false, false, false, false, true⟩
  else if op = 2 then some ⟨false, true, true, false, false, false⟩
  else if op = 3 then some ⟨false, true, false, false, false, false⟩
  else if op = 4 ∨ op = 5 then some ⟨false, false, false, false, false, true⟩
  else if op = 6 ∨ op = 7 ∨ op = 8 then some ⟨false, false, false, true, false, true⟩
  else if op = 9 then some ⟨false, false, false, false, true, true⟩
  else if op = 10 then some ⟨false, true, true, false, true, false⟩
  else if op = 11 then some ⟨false, false, false, false, false, false⟩
  else none
def noUse : Uses := ⟨false, false, false, false, false, false⟩
theorem of_c {m : Mem} {op : Int} : FCalls Tryz.prog 42 [.int .i64 op] m fun v m' => v = .tuple #[.agg ((usesOf op).getD noUse).cells.toArray, .bool (usesOf op).isSome] ∧ m' = m := by
  refine fcalls_of_vc (T := tbl) (B := bodies) (pr := [2]) (DR := dr42) (args := [.v (.int .i64 op)]) tbl_ok bodies_ok mixed Tryz.func42 rfl (by decide +kernel) (by simp [Tryz.f42]) rfl ?_
  (conv => whnf)
  repeat' (first
    | (refine brk_intro (fun c => ?_) (fun c => ?_) <;> (conv => whnf))
    | (apply And.intro <;> (conv => whnf))
    | exact True.intro)
  all_goals first
    | rfl
    | (exfalso; simp only [beq_iff_eq, beq_eq_false_iff_ne, ne_eq] at *; omega)
    | (refine Eq.trans (b := .tuple #[.agg ((usesOf op).getD noUse).cells.toArray, .bool (usesOf op).isSome]) ?_ rfl
       simp only [beq_iff_eq, beq_eq_false_iff_ne, ne_eq] at *
       generalize he : usesOf op = e
       unfold usesOf at he
       simp_all only [if_true, if_false, true_or, or_true, or_self]
       subst he
       rfl)
def withinF (u : Bool) (n b : Int) : Bool := if u then decide (0 ≤ n ∧ n < b) else decide (n = 0)
theorem within_c {m : Mem} {u : Bool} {n b : Int} : FCalls Tryz.prog 53 [.bool u, .int .i64 n, .int .i64 b] m fun v m' => v = .bool (withinF u n b) ∧ m' = m := by
  refine fcalls_of_vc (T := tbl) (B := bodies) (pr := []) (DR := dr53) (args := [.v (.bool u), .v (.int .i64 n), .v (.int .i64 b)]) tbl_ok bodies_ok mixed Tryz.func53 rfl (by decide +kernel) (by simp [Tryz.f53]) rfl ?_
  (conv => whnf)
  refine brk_intro (fun c => ?_) (fun c => ?_)
  · subst c
    (conv => whnf)
    refine brk_intro (fun c => ?_) (fun c => ?_)
    · have c : 0 ≤ n := by simpa using c
      (conv => whnf)
      exact ⟨by unfold withinF; simp [c, single] <;> rfl, rfl⟩
    · have c : ¬ 0 ≤ n := by simpa using c
      (conv => whnf)
      exact ⟨by unfold withinF; simp [c, single], rfl⟩
  · subst c
    (conv => whnf)
    refine ⟨?_, rfl⟩
    show Value.bool (n == 0) = Value.bool (decide (n = 0))
    rfl
def boundsF (i : Ins) : Bool := if i.op ≠ 10 then decide (i.mn = 0 ∧ i.mx = 0) else decide (0 ≤ i.mn ∧ i.mn ≤ 255 ∧ (i.mx = -1 ∨ i.mn ≤ i.mx ∧ i.mx ≤ 255))
theorem bounds_c {m : Mem} {i : Ins} : FCalls Tryz.prog 54 [.agg i.cells.toArray] m fun v m' => v = .bool (boundsF i) ∧ m' = m := by
  refine fcalls_of_vc (T := tbl) (B := bodies) (pr := [1]) (DR := dr54) (args := [.v (.agg i.cells.toArray)]) tbl_ok bodies_ok mixed Tryz.func54 rfl (by decide +kernel) (by simp [Tryz.f54]) rfl ?_
  (conv => whnf)
  repeat' (first
    | (refine brk_intro (fun c => ?_) (fun c => ?_) <;> (conv => whnf))
    | (apply And.intro <;> (conv => whnf))
    | exact True.intro)
  all_goals first
    | rfl
    | (change Value.bool _ = Value.bool _
       refine congrArg Value.bool ?_
       unfold boundsF
       by_cases h : i.op = 10
       · simp_all <;> omega
       · simp_all <;> rfl)
def fineF (q : Prg) (k : Nat) : Bool := match q.ins[k]? with
  | none => false
  | some i => match usesOf i.op with
    | none => false
    | some u => (u.set || decide (i.s0 = 0 ∧ i.s1 = 0 ∧ i.s2 = 0 ∧ i.s3 = 0)) && withinF u.x i.x q.ins.length && withinF u.y i.y q.ins.length &&
      withinF (u.g || u.c) i.n (if u.c then q.counters else q.groups) && boundsF i && (!u.n || decide (k + 1 < q.ins.length))
theorem ins_at {m : Mem} {A : Option Addr} {l : List Ins} {k : Nat} {i : Ins} (h : Rd m A (icells l)) (hi : l[k]? = some i) : ∃ p, A = some p ∧ ∀ (o : Nat) v, i.cells[o]? = some v → m.cell ((p.add (k * 10)).add o) = some v := by
  obtain ⟨q0, hq0, _⟩ := h.atf (k := k * 10) (off := 0) ((flat_get ins_len hi (o := 0) (by decide)).trans rfl)
  refine ⟨q0, hq0, fun o v ho => ?_⟩
  have hlt : o < 10 := by
    have := (List.getElem?_eq_some_iff.1 ho).1
    rw [ins_len] at this
    exact this
  obtain ⟨q1, hq1, hc1⟩ := h.atf (k := k * 10) (off := o) ((flat_get ins_len hi (o := o) hlt).trans ho)
  rw [hq0] at hq1
  cases hq1
  exact hc1
theorem fine_c {m : Mem} {q : Prg} {k : Nat} {i : Ins} (hq : q.at m) (hi : q.ins[k]? = some i) (hn : q.ins.length ≤ 40000) :
    FCalls Tryz.prog 37 [q.val, .int .i64 ((k : Nat) : Int)] m fun v m' => v = .bool (fineF q k) ∧ m' = m := by
  obtain ⟨p, hp, hc⟩ := ins_at hq hi
  have hlt := (List.getElem?_eq_some_iff.1 hi).1
  refine FCalls.less ?_
  refine fcalls_of_vc (T := tbl) (B := bodies) (pr := [99999, 2, 6]) (DR := dr37) (args := [.v q.val, .v (.int .i64 ((k : Nat) : Int))]) tbl_ok bodies_ok mixed Tryz.func37 rfl (by decide +kernel) (by simp [Tryz.f37]) rfl ?_
  (conv => whnf)
  refine ⟨p, hp, by omega, by omega, ?_⟩
  (conv => whnf)
  refine ⟨_, hc 0 _ rfl, ?_⟩
  (conv => whnf)
  refine ⟨_, hc 1 _ rfl, ?_⟩
  (conv => whnf)
  refine ⟨_, hc 2 _ rfl, ?_⟩
  (conv => whnf)
  refine ⟨_, hc 3 _ rfl, ?_⟩
  (conv => whnf)
  refine ⟨_, hc 4 _ rfl, ?_⟩
  (conv => whnf)
  refine ⟨_, hc 5 _ rfl, ?_⟩
  (conv => whnf)
  refine ⟨_, hc 6 _ rfl, ?_⟩
  (conv => whnf)
  refine ⟨_, hc 7 _ rfl, ?_⟩
  (conv => whnf)
  refine ⟨_, hc 8 _ rfl, ?_⟩
  (conv => whnf)
  refine ⟨_, hc 9 _ rfl, ?_⟩
  (conv => whnf)
  intro b5 m2 hb he
  have h := (Sep.init m).new' (l := (tbl.at 56).zero.list) hb he
  clear hb he
  (conv => whnf)
  refine ⟨h.rooms 0 (i := 0) rfl (by decide), fun m3 he => ?_⟩
  replace h : Sep [pt b5 i.cells, kp m] m3 := he ▸ h.putAll 0 (i := 0) i.cells rfl
  clear he
  have k0 := h.cell 0 (i := 0) rfl rfl
  have k1 := h.cell 0 (i := 1) rfl rfl
  have k2 := h.cell 0 (i := 2) rfl rfl
  have k3 := h.cell 0 (i := 3) rfl rfl
  have k4 := h.cell 0 (i := 4) rfl rfl
  have k5 := h.cell 0 (i := 5) rfl rfl
  have k6 := h.cell 0 (i := 6) rfl rfl
  have k7 := h.cell 0 (i := 7) rfl rfl
  have k8 := h.cell 0 (i := 8) rfl rfl
  have k9 := h.cell 0 (i := 9) rfl rfl
  (conv => whnf)
  refine ⟨_, k0, ?_⟩
  (conv => whnf)
  refine FCalls.mono of_c ?_
  rintro v m' ⟨rfl, rfl⟩
  obtain ⟨u, hu⟩ : ∃ u, u = (usesOf i.op).getD noUse := ⟨_, rfl⟩
  obtain ⟨ok, hok⟩ : ∃ b, b = (usesOf i.op).isSome := ⟨_, rfl⟩
  rw [← hu, ← hok]
  have step1 : IntKind.i64.wrap ((k : Int) + 1) = ((k + 1 : Nat) : Int) := wrap_id (by omega) (by omega)
  have hF : fineF q k = (ok && (u.set || decide (i.s0 = 0 ∧ i.s1 = 0 ∧ i.s2 = 0 ∧ i.s3 = 0)) && withinF u.x i.x q.ins.length && withinF u.y i.y q.ins.length &&
      withinF (u.g || u.c) i.n (if u.c then q.counters else q.groups) && boundsF i && (!u.n || decide (k + 1 < q.ins.length))) := by
    unfold fineF
    rw [hi]
    simp only
    cases h : usesOf i.op with
    | none => rw [h] at hok; rw [hok]; simp
    | some x => rw [h] at hok hu; rw [hok, hu]; simp
  clear hu hok
  have ka : ∀ j, j < 4 → m'.cell (((⟨b5, 0, none⟩ : Addr).add 6).add j) = some (.int .u64 ([i.s0, i.s1, i.s2, i.s3].getD j 0)) := fun j hj => by
    have : j = 0 ∨ j = 1 ∨ j = 2 ∨ j = 3 := by omega
    rcases this with rfl | rfl | rfl | rfl
    · exact k6
    · exact k7
    · exact k8
    · exact k9
  have hk := h.kept 1 rfl
  clear h
  rw [hF]
  (conv => whnf)
  repeat' (first
    | (refine brk_intro (fun c => ?_) (fun c => ?_) <;> (conv => whnf))
    | (refine FCalls.mono within_c ?_; rintro v m1 ⟨rfl, rfl⟩; (conv => whnf))
    | (refine FCalls.mono bounds_c ?_; rintro v m1 ⟨rfl, rfl⟩; (conv => whnf))
    | (refine ⟨_, k0, ?_⟩; (conv => whnf))
    | (refine ⟨_, k1, ?_⟩; (conv => whnf))
    | (refine ⟨_, k2, ?_⟩; (conv => whnf))
    | (refine ⟨_, k3, ?_⟩; (conv => whnf))
    | (refine ⟨_, k4, ?_⟩; (conv => whnf))
    | (refine ⟨_, k5, ?_⟩; (conv => whnf))
    | (refine ⟨_, k6, ?_⟩; (conv => whnf))
    | (refine ⟨_, k7, ?_⟩; (conv => whnf))
    | (refine ⟨_, k8, ?_⟩; (conv => whnf))
    | (refine ⟨_, k9, ?_⟩; (conv => whnf))
    | (show ∃ xs : List Int, _; refine ⟨[i.s0, i.s1, i.s2, i.s3], rfl, ka, ?_⟩; (conv => whnf); refine ⟨rfl, rfl, ?_⟩; (conv => whnf)))
  all_goals
    refine ⟨m, hk, ?_, rfl⟩
    change Value.bool _ = Value.bool _
    refine congrArg Value.bool ?_
    clear hF hc ka k0 k1 k2 k3 k4 k5 k6 k7 k8 k9 hk hq hp
    have hlt2 : ((k + 1 : Nat) : Int) < q.ins.length ↔ k + 1 < q.ins.length := by omega
    try rw [step1]
    generalize withinF u.x i.x q.ins.length = w1 at *
    generalize withinF u.y i.y q.ins.length = w2 at *
    generalize boundsF i = w3 at *
    generalize q.ins.length = n at *
  all_goals first
    | (simp_all; done)
end Go.Proofs.YtfjbgmeimipibaaGreatDoor
/- Dfa: code.Right, code.Free. -/
namespace Go.Proofs.YtfjbgmeimipibaaGreatDoor
open Go Go.Mv
set_option maxHeartbeats 1000000
set_option maxRecDepth 10000
set_option linter.unusedVariables false
set_option linter.unusedSimpArgs false
attribute [local irreducible] FCalls IntKind.wrap bits Mem.set Mem.setCell Mem.setCells YCalls RunP NextP RunU
def wrongF (q : Prg) : Option Nat := (List.range q.ins.length).find? fun k => !fineF q k
def rightF (q : Prg) : Int × Int :=
  if 40000 < q.ins.length then (42, 0)
  else if q.groups < 0 ∨ 30 < q.groups ∨ q.counters < 0 ∨ 40 < q.counters then (1, 0)
  else if q.ins.length = 0 then (60, 0)
  else match wrongF q with
    | some k => (60, k)
    | none => (0, 0)
theorem wrong_some {q : Prg} {k : Nat} (h : ∀ j, j < k → fineF q j = true) (hk : k < q.ins.length) (hf : fineF q k = false) : wrongF q = some k := by
  unfold wrongF
  rw [List.find?_range_eq_some]
  refine ⟨by simp [hf], by simpa using hk, fun j hj => by simp [h j hj]⟩
theorem wrong_none {q : Prg} (h : ∀ j, j < q.ins.length → fineF q j = true) : wrongF q = none := by
  unfold wrongF
  rw [List.find?_range_eq_none]
  intro j hj
  simp [h j hj]
theorem right_c {m : Mem} {q : Prg} (hq : q.at m) : FCalls Tryz.prog 17 [q.val] m fun v m' => v = .tuple #[.int .i64 (rightF q).1, .int .i64 (rightF q).2] ∧ m' = m := by
  refine fcalls_of_vc (T := tbl) (B := bodies) (pr := [1]) (DR := dr17) (args := [.v q.val]) tbl_ok bodies_ok mixed Tryz.func17 rfl (by decide +kernel) (by simp [Tryz.f17]) rfl ?_
  (conv => whnf)
  refine brk_intro (fun c1 => ?_) (fun c1 => ?_)
  · have c1 : (40000 : Int) < q.ins.length := by simpa using c1
    (conv => whnf)
    refine ⟨?_, rfl⟩
    unfold rightF
    rw [if_pos (by omega)]
    rfl
  have c1 : ¬ (40000 : Int) < q.ins.length := by simpa using c1
  obtain ⟨rf, hrf⟩ : ∃ rf, rf = rightF q := ⟨_, rfl⟩
  rw [← hrf]
  have hbad : q.groups < 0 ∨ 30 < q.groups ∨ q.counters < 0 ∨ 40 < q.counters → rf = (1, 0) := fun h => by
    rw [hrf]
    unfold rightF
    rw [if_neg (by omega), if_pos h]
  have hgood : ¬ (q.groups < 0 ∨ 30 < q.groups ∨ q.counters < 0 ∨ 40 < q.counters) → (q.ins.length = 0 → rf = (60, 0)) ∧ (∀ k, 0 < q.ins.length → wrongF q = some k → rf = (60, (k : Int))) ∧ (0 < q.ins.length → wrongF q = none → rf = (0, 0)) := fun h => by
    rw [hrf]
    unfold rightF
    rw [if_neg (by omega), if_neg h]
    refine ⟨fun h0 => by rw [if_pos h0], fun k h0 h1 => by rw [if_neg (by omega), h1], fun h0 h1 => by rw [if_neg (by omega), h1]⟩
  clear hrf
  (conv => whnf)
  refine brk_intro (fun c2 => ?_) (fun c2 => ?_)
  rotate_left
  · have c2 : q.groups < 0 := by simpa using c2
    rw [hbad (by omega)]
    (conv => whnf)
    exact ⟨rfl, rfl⟩
  have c2 : ¬ q.groups < 0 := by simpa using c2
  (conv => whnf)
  refine brk_intro (fun c3 => ?_) (fun c3 => ?_)
  rotate_left
  · have c3 : 30 < q.groups := by simpa using c3
    rw [hbad (by omega)]
    (conv => whnf)
    exact ⟨rfl, rfl⟩
  have c3 : ¬ 30 < q.groups := by simpa using c3
  (conv => whnf)
  refine brk_intro (fun c4 => ?_) (fun c4 => ?_)
  rotate_left
  · have c4 : q.counters < 0 := by simpa using c4
    rw [hbad (by omega)]
    (conv => whnf)
    exact ⟨rfl, rfl⟩
  have c4 : ¬ q.counters < 0 := by simpa using c4
  (conv => whnf)
  refine brk_intro (fun c5 => ?_) (fun c5 => ?_)
  · have c5 : 40 < q.counters := by simpa using c5
    rw [hbad (by omega)]
    (conv => whnf)
    exact ⟨rfl, rfl⟩
  have c5 : ¬ 40 < q.counters := by simpa using c5
  obtain ⟨g1, g2, g3⟩ := hgood (by omega)
  clear hbad hgood
  (conv => whnf)
  refine brk_intro (fun c6 => ?_) (fun c6 => ?_)
  · have c6 : q.ins.length = 0 := by
      have : (q.ins.length : Int) = 0 := by simpa using c6
      omega
    rw [g1 c6]
    (conv => whnf)
    exact ⟨rfl, rfl⟩
  have c6 : 0 < q.ins.length := by
    have : ¬ (q.ins.length : Int) = 0 := by simpa using c6
    omega
  (conv => whnf)
  refine loop_keep [0, 1, 36] Nat (fun s => [(37, .v (.int .i64 ((s : Nat) : Int)))]) (fun _ => [.cells q.cells]) (fun _ => m) (fun s => s ≤ q.ins.length ∧ ∀ j, j < s → fineF q j = true) (fun s => q.ins.length - s) 0 ⟨rfl, trivial⟩ rfl rfl ⟨Nat.zero_le _, fun j h => by omega⟩ ?_
  (conv => whnf)
  refine ⟨rfl, ?_⟩
  rintro k ⟨hk, hJ⟩
  (conv => whnf)
  refine brk_intro (fun c7 => ?_) (fun c7 => ?_)
  · have c7 : (k : Int) < q.ins.length := by simpa using c7
    have step1 : IntKind.i64.wrap ((k : Int) + 1) = ((k + 1 : Nat) : Int) := wrap_id (by omega) (by omega)
    obtain ⟨i, hi⟩ : ∃ i, q.ins[k]? = some i := ⟨_, List.getElem?_eq_getElem (by omega)⟩
    (conv => whnf)
    refine FCalls.mono (fine_c hq hi (by omega)) ?_
    rintro v m' ⟨rfl, rfl⟩
    obtain ⟨b, hb⟩ : ∃ b, b = fineF q k := ⟨_, rfl⟩
    rw [← hb]
    (conv => whnf)
    refine brk_intro (fun c8 => ?_) (fun c8 => ?_)
    · have c8 : b = false := by simpa using c8
      rw [g2 k c6 (wrong_some hJ (by omega) (by rw [← hb]; exact c8))]
      (conv => whnf)
      exact ⟨rfl, rfl⟩
    · have c8 : b = true := by simpa using c8
      (conv => whnf)
      refine ⟨k + 1, le_eq ⟨by show some (AV.v (.int .i64 (IntKind.i64.wrap ((k : Int) + 1)))) = _; rw [step1], rfl, rfl, rfl, trivial⟩ rfl rfl rfl, ⟨by omega, fun j hj => ?_⟩, by omega⟩
      rcases Nat.lt_or_ge j k with h | h
      · exact hJ j h
      · have : j = k := by omega
        rw [this, ← hb, c8]
  · have c7 : ¬ (k : Int) < q.ins.length := by simpa using c7
    rw [g3 c6 (wrong_none fun j hj => hJ j (by omega))]
    (conv => whnf)
    exact ⟨rfl, rfl⟩
def freeI (i : Ins) : Bool := !(decide (i.op = 8 ∨ i.op = 9 ∨ i.op = 10))
def freeF (q : Prg) : Bool := q.ins.all freeI
theorem all_take {l : List Ins} {p : Ins → Bool} (h : ∀ (j : Nat) i, l[j]? = some i → p i = true) : l.all p = true := by
  rw [List.all_eq_true]
  intro i hi
  obtain ⟨j, hj⟩ := List.mem_iff_getElem?.1 hi
  exact h j i hj
theorem free_c {m : Mem} {q : Prg} (hq : q.at m) (hn : q.ins.length ≤ 40000) : FCalls Tryz.prog 22 [q.val] m fun v m' => v = .bool (freeF q) ∧ m' = m := by
  refine FCalls.less ?_
  refine fcalls_of_vc (T := tbl) (B := bodies) (pr := [99999, 1]) (DR := dr22) (args := [.v q.val]) tbl_ok bodies_ok mixed Tryz.func22 rfl (by decide +kernel) (by simp [Tryz.f22]) rfl ?_
  (conv => whnf)
  refine loop_keep [0, 6, 7] (Nat × Mem) (fun s => [(8, .v (.int .i64 ((s.1 : Nat) : Int)))]) (fun _ => [.cells q.cells]) (fun s => s.2) (fun s => s.1 ≤ q.ins.length ∧ m.le s.2 ∧ ∀ (j : Nat) i, j < s.1 → q.ins[j]? = some i → freeI i = true) (fun s => q.ins.length - s.1) (0, m) ⟨rfl, trivial⟩ rfl rfl ⟨Nat.zero_le _, Mem.le_refl _, fun j i h => (by omega)⟩ ?_
  (conv => whnf)
  refine ⟨rfl, ?_⟩
  rintro ⟨k, M⟩ ⟨hk, hM, hJ⟩
  simp only at hk hM hJ
  (conv => whnf)
  refine brk_intro (fun c7 => ?_) (fun c7 => ?_)
  · have c7 : (k : Int) < q.ins.length := by simpa using c7
    have step1 : IntKind.i64.wrap ((k : Int) + 1) = ((k + 1 : Nat) : Int) := wrap_id (by omega) (by omega)
    obtain ⟨i, hi⟩ : ∃ i, q.ins[k]? = some i := ⟨_, List.getElem?_eq_getElem (by omega)⟩
    obtain ⟨p, hp, hc⟩ := ins_at (hq.more hM) hi
    (conv => whnf)
    refine ⟨p, hp, by omega, by omega, ?_⟩
    (conv => whnf)
    refine ⟨_, hc 0 _ rfl, ?_⟩
    (conv => whnf)
    refine ⟨_, hc 1 _ rfl, ?_⟩
    (conv => whnf)
    refine ⟨_, hc 2 _ rfl, ?_⟩
    (conv => whnf)
    refine ⟨_, hc 3 _ rfl, ?_⟩
    (conv => whnf)
    refine ⟨_, hc 4 _ rfl, ?_⟩
    (conv => whnf)
    refine ⟨_, hc 5 _ rfl, ?_⟩
    (conv => whnf)
    refine ⟨_, hc 6 _ rfl, ?_⟩
    (conv => whnf)
    refine ⟨_, hc 7 _ rfl, ?_⟩
    (conv => whnf)
    refine ⟨_, hc 8 _ rfl, ?_⟩
    (conv => whnf)
    refine ⟨_, hc 9 _ rfl, ?_⟩
    (conv => whnf)
    intro b5 m2 hb he
    have h := (Sep.init M).new' (l := (tbl.at 56).zero.list) hb he
    clear hb he
    (conv => whnf)
    refine ⟨h.rooms 0 (i := 0) rfl (by decide), fun m3 he => ?_⟩
    replace h : Sep [pt b5 i.cells, kp M] m3 := he ▸ h.putAll 0 (i := 0) i.cells rfl
    clear he
    have k0 := h.cell 0 (i := 0) rfl rfl
    have hM3 : m.le m3 := Mem.le_trans hM (h.kept 1 rfl)
    (conv => whnf)
    refine ⟨_, k0, ?_⟩
    (conv => whnf)
    have hno : i.op = 8 ∨ i.op = 9 ∨ i.op = 10 → freeF q = false := fun h => by
      cases hf : freeF q with
      | false => rfl
      | true =>
        unfold freeF at hf
        rw [List.all_eq_true] at hf
        have := hf i (List.mem_of_getElem? hi)
        unfold freeI at this
        rw [decide_eq_true h] at this
        cases this
    obtain ⟨f, hf⟩ : ∃ f, f = freeF q := ⟨_, rfl⟩
    rw [← hf] at hno ⊢
    clear hf
    refine brk_intro (fun c8 => ?_) (fun c8 => ?_)
    · rw [hno (by have : i.op = 8 := by simpa using c8
                  omega)]
      (conv => whnf)
      refine brk_true (by simpa using c8) ?_
      (conv => whnf)
      exact ⟨m, hM3, rfl, rfl⟩
    · (conv => whnf)
      refine brk_intro (fun c9 => ?_) (fun c9 => ?_)
      · rw [hno (by have : i.op = 9 := by simpa using c9
                    omega)]
        (conv => whnf)
        refine brk_true (by simpa using c9) ?_
        (conv => whnf)
        exact ⟨m, hM3, rfl, rfl⟩
      · (conv => whnf)
        refine brk_intro (fun c10 => ?_) (fun c10 => ?_)
        · rw [hno (by have : i.op = 10 := by simpa using c10
                      omega)]
          (conv => whnf)
          exact ⟨m, hM3, rfl, rfl⟩
        · have c8 : ¬ i.op = 8 := by simpa using c8
          have c9 : ¬ i.op = 9 := by simpa using c9
          have c10 : ¬ i.op = 10 := by simpa using c10
          (conv => whnf)
          refine ⟨(k + 1, m3), le_eq ⟨by show some (AV.v (.int .i64 (IntKind.i64.wrap ((k : Int) + 1)))) = _; rw [step1], rfl, rfl, rfl, trivial⟩ rfl rfl rfl, ⟨by simp only; omega, hM3, fun j i' hj hi' => ?_⟩, by simp only; omega⟩
          simp only at hj
          rcases Nat.lt_or_ge j k with h | h
          · exact hJ j i' h hi'
          · have : j = k := by omega
            rw [this, hi] at hi'
            cases hi'
            unfold freeI
            rw [decide_eq_false (by omega)]
            rfl
  · have c7 : ¬ (k : Int) < q.ins.length := by simpa using c7
    have hf : freeF q = true := all_take fun j i hi => hJ j i (by have := (List.getElem?_eq_some_iff.1 hi).1; omega) hi
    rw [hf]
    (conv => whnf)
    exact ⟨m, hM, rfl, rfl⟩
end Go.Proofs.YtfjbgmeimipibaaGreatDoor
/- Dfa: the document's Of, fine, Right, Free. -/
namespace Go.Proofs.YtfjbgmeimipibaaGreatDoor
open Go Go.Mv
set_option maxHeartbeats 1000000
set_option maxRecDepth 10000
set_option linter.unusedVariables false
set_option linter.unusedSimpArgs false
attribute [local irreducible] FCalls IntKind.wrap bits Mem.set Mem.setCell Mem.setCells YCalls RunP NextP RunU
def rcells (op : Int) (u : Uses) : List Value := [.bool u.set, .bool u.x, .bool u.y, .bool (u.g || u.c), .bool (decide (op = 10)), .bool u.n]
theorem rof_c {m : Mem} {op : Int} : FCalls Tryz.prog 36 [.int .i64 op] m fun v m' => v = .tuple #[.agg (rcells op ((usesOf op).getD noUse)).toArray, .bool (usesOf op).isSome] ∧ m' = m := by
  refine fcalls_of_vc (T := tbl) (B := bodies) (pr := [2]) (DR := dr36) (args := [.v (.int .i64 op)]) tbl_ok bodies_ok mixed Tryz.func36 rfl (by decide +kernel) (by simp [Tryz.f36]) rfl ?_
  (conv => whnf)
  repeat' (first
    | (refine brk_intro (fun c => ?_) (fun c => ?_) <;> (conv => whnf))
    | (apply And.intro <;> (conv => whnf))
    | exact True.intro)
  all_goals first
    | rfl
    | (exfalso; simp only [beq_iff_eq, beq_eq_false_iff_ne, ne_eq] at *; omega)
    | (refine Eq.trans (b := .tuple #[.agg (rcells op ((usesOf op).getD noUse)).toArray, .bool (usesOf op).isSome]) ?_ rfl
       simp only [beq_iff_eq, beq_eq_false_iff_ne, ne_eq] at *
       have e10 : decide (op = 10) = (op == 10) := rfl
       unfold rcells
       generalize he : usesOf op = e
       generalize hd : decide (op = 10) = d
       unfold usesOf at he
       simp_all only [if_true, if_false, true_or, or_true, or_self]
       subst he
       subst hd
       rfl)
    | (simp only [beq_iff_eq, beq_eq_false_iff_ne, ne_eq] at *
       have he : usesOf op = none := by unfold usesOf; simp_all
       have hd : decide (op = 10) = false := decide_eq_false (by assumption)
       unfold rcells
       rw [he, hd]
       rfl)
theorem uses_c {op : Int} {u : Uses} (h : usesOf op = some u) : u.c = decide (op = 9 ∨ op = 10) := by
  unfold usesOf at h
  repeat' split at h
  all_goals first
    | (cases h; done)
    | (cases h; symm; first | exact decide_eq_false (by omega) | exact decide_eq_true (by omega))
theorem rof1 {m : Mem} {op : Int} {u : Uses} (h : usesOf op = some u) {d : Bool} (hd : decide (op = 10) = d) : FCalls Tryz.prog 36 [.int .i64 op] m fun v m' => v = .tuple #[.agg #[.bool u.set, .bool u.x, .bool u.y, .bool (u.g || u.c), .bool d, .bool u.n], .bool true] ∧ m' = m :=
  (rof_c (op := op)).mono fun v m' ⟨h1, h2⟩ => ⟨by rw [h1, h]; unfold rcells; rw [hd]; rfl, h2⟩
theorem rof0 {m : Mem} {op : Int} (h : usesOf op = none) : FCalls Tryz.prog 36 [.int .i64 op] m fun v m' => (∃ d, v = .tuple #[.agg #[.bool false, .bool false, .bool false, .bool false, .bool d, .bool false], .bool false]) ∧ m' = m :=
  (rof_c (op := op)).mono fun v m' ⟨h1, h2⟩ => ⟨⟨decide (op = 10), by rw [h1, h]; rfl⟩, h2⟩
theorem usesOf_ways (op : Int) : op = 1 ∨ op = 2 ∨ op = 3 ∨ op = 4 ∨ op = 5 ∨ op = 6 ∨ op = 7 ∨ op = 8 ∨ op = 9 ∨ op = 10 ∨ op = 11 ∨ usesOf op = none := by
  by_cases h : 1 ≤ op ∧ op ≤ 11
  · omega
  · right; right; right; right; right; right; right; right; right; right; right
    unfold usesOf
    repeat (rw [if_neg (by omega)])
theorem rfine_1 {m : Mem} {q : Prg} {k : Nat} {x y n mn mx s0 s1 s2 s3 : Int} (hq : q.at m) (hi : q.ins[k]? = some ⟨1, x, y, n, mn, mx, s0, s1, s2, s3⟩) (hn : q.ins.length ≤ 1048576) :
    FCalls Tryz.prog 33 [q.val, .int .i64 ((k : Nat) : Int)] m fun v m' => v = .bool (fineF q k) ∧ m' = m := by
  obtain ⟨p, hp, hc⟩ := ins_at hq hi
  have hlt := (List.getElem?_eq_some_iff.1 hi).1
  refine FCalls.less ?_
  refine fcalls_of_vc (T := tbl) (B := bodies) (pr := [99999, 2, 6]) (DR := dr33) (args := [.v q.val, .v (.int .i64 ((k : Nat) : Int))]) tbl_ok bodies_ok mixed Tryz.func33 rfl (by decide +kernel) (by simp [Tryz.f33]) rfl ?_
  (conv => whnf)
  refine ⟨p, hp, by omega, by omega, ?_⟩
  (conv => whnf)
  refine ⟨_, hc 0 _ rfl, ?_⟩
  (conv => whnf)
  refine ⟨_, hc 1 _ rfl, ?_⟩
  (conv => whnf)
  refine ⟨_, hc 2 _ rfl, ?_⟩
  (conv => whnf)
  refine ⟨_, hc 3 _ rfl, ?_⟩
  (conv => whnf)
  refine ⟨_, hc 4 _ rfl, ?_⟩
  (conv => whnf)
  refine ⟨_, hc 5 _ rfl, ?_⟩
  (conv => whnf)
  refine ⟨_, hc 6 _ rfl, ?_⟩
  (conv => whnf)
  refine ⟨_, hc 7 _ rfl, ?_⟩
  (conv => whnf)
  refine ⟨_, hc 8 _ rfl, ?_⟩
  (conv => whnf)
  refine ⟨_, hc 9 _ rfl, ?_⟩
  (conv => whnf)
  intro b5 m2 hb he
  have h := (Sep.init m).new' (l := (tbl.at 56).zero.list) hb he
  clear hb he
  (conv => whnf)
  refine ⟨h.rooms 0 (i := 0) rfl (by decide), fun m3 he => ?_⟩
  replace h := he ▸ h.putAll 0 (i := 0) (Ins.cells ⟨1, x, y, n, mn, mx, s0, s1, s2, s3⟩) rfl
  clear he
  have k0 := h.cell 0 (i := 0) rfl rfl
  have k1 := h.cell 0 (i := 1) rfl rfl
  have k2 := h.cell 0 (i := 2) rfl rfl
  have k3 := h.cell 0 (i := 3) rfl rfl
  have k4 := h.cell 0 (i := 4) rfl rfl
  have k5 := h.cell 0 (i := 5) rfl rfl
  have ka : ∀ j, j < 4 → m3.cell (((⟨b5, 0, none⟩ : Addr).add 6).add j) = some (.int .u64 ([s0, s1, s2, s3].getD j 0)) := fun j hj => by
    have : j = 0 ∨ j = 1 ∨ j = 2 ∨ j = 3 := by omega
    rcases this with rfl | rfl | rfl | rfl
    · exact h.cell 0 (i := 6) rfl rfl
    · exact h.cell 0 (i := 7) rfl rfl
    · exact h.cell 0 (i := 8) rfl rfl
    · exact h.cell 0 (i := 9) rfl rfl
  have hk := h.kept 1 rfl
  clear h
  (conv => whnf)
  refine ⟨_, k0, ?_⟩
  (conv => whnf)
  refine FCalls.mono (rof1 (u := ⟨true, false, false, false, false, true⟩) rfl (d := false) rfl) ?_
  rintro v m' ⟨rfl, rfl⟩
  have hF : fineF q k = ((true || decide (s0 = 0 ∧ s1 = 0 ∧ s2 = 0 ∧ s3 = 0)) && withinF false x q.ins.length && withinF false y q.ins.length && withinF false n q.groups && boundsF ⟨1, x, y, n, mn, mx, s0, s1, s2, s3⟩ && (!true || decide (k + 1 < q.ins.length))) := by
    unfold fineF
    rw [hi]
    rfl
  clear hc hp
  have hw : IntKind.i64.wrap (((q.ins.length : Nat) : Int) - 1) = ((q.ins.length : Nat) : Int) - 1 := wrap_id (by omega) (by omega)
  (conv => whnf)
  repeat' (first
    | (refine brk_true ?h ?_; (case h => first | rfl | (simp <;> omega)); (conv => whnf))
    | (refine brk_false ?h ?_; (case h => first | rfl | (simp <;> omega)); (conv => whnf))
    | (refine brk_intro (fun c => ?_) (fun c => ?_) <;> (simp at c) <;> (conv => whnf))
    | (refine ⟨_, k0, ?_⟩; (conv => whnf))
    | (refine ⟨_, k1, ?_⟩; (conv => whnf))
    | (refine ⟨_, k2, ?_⟩; (conv => whnf))
    | (refine ⟨_, k3, ?_⟩; (conv => whnf))
    | (refine ⟨_, k4, ?_⟩; (conv => whnf))
    | (refine ⟨_, k5, ?_⟩; (conv => whnf))
    | (show ∃ xs : List Int, _; refine ⟨[s0, s1, s2, s3], rfl, ka, ?_⟩; (conv => whnf); refine ⟨rfl, rfl, ?_⟩; (conv => whnf)))
  all_goals
    refine ⟨m, hk, ?_, rfl⟩
    change Value.bool _ = Value.bool _
    refine congrArg Value.bool ?_
    rw [hF]
    clear hF
  all_goals first
    | (simp_all [withinF, boundsF]; done)
    | (simp_all [withinF, boundsF]; omega)
    | (simp [withinF, boundsF]; omega)
theorem rfine_2 {m : Mem} {q : Prg} {k : Nat} {x y n mn mx s0 s1 s2 s3 : Int} (hq : q.at m) (hi : q.ins[k]? = some ⟨2, x, y, n, mn, mx, s0, s1, s2, s3⟩) (hn : q.ins.length ≤ 1048576) :
    FCalls Tryz.prog 33 [q.val, .int .i64 ((k : Nat) : Int)] m fun v m' => v = .bool (fineF q k) ∧ m' = m := by
  obtain ⟨p, hp, hc⟩ := ins_at hq hi
  have hlt := (List.getElem?_eq_some_iff.1 hi).1
  refine FCalls.less ?_
  refine fcalls_of_vc (T := tbl) (B := bodies) (pr := [99999, 2, 6]) (DR := dr33) (args := [.v q.val, .v (.int .i64 ((k : Nat) : Int))]) tbl_ok bodies_ok mixed Tryz.func33 rfl (by decide +kernel) (by simp [Tryz.f33]) rfl ?_
  (conv => whnf)
  refine ⟨p, hp, by omega, by omega, ?_⟩
  (conv => whnf)
  refine ⟨_, hc 0 _ rfl, ?_⟩
  (conv => whnf)
  refine ⟨_, hc 1 _ rfl, ?_⟩
  (conv => whnf)
  refine ⟨_, hc 2 _ rfl, ?_⟩
  (conv => whnf)
  refine ⟨_, hc 3 _ rfl, ?_⟩
  (conv => whnf)
  refine ⟨_, hc 4 _ rfl, ?_⟩
  (conv => whnf)
  refine ⟨_, hc 5 _ rfl, ?_⟩
  (conv => whnf)
  refine ⟨_, hc 6 _ rfl, ?_⟩
  (conv => whnf)
  refine ⟨_, hc 7 _ rfl, ?_⟩
  (conv => whnf)
  refine ⟨_, hc 8 _ rfl, ?_⟩
  (conv => whnf)
  refine ⟨_, hc 9 _ rfl, ?_⟩
  (conv => whnf)
  intro b5 m2 hb he
  have h := (Sep.init m).new' (l := (tbl.at 56).zero.list) hb he
  clear hb he
  (conv => whnf)
  refine ⟨h.rooms 0 (i := 0) rfl (by decide), fun m3 he => ?_⟩
  replace h := he ▸ h.putAll 0 (i := 0) (Ins.cells ⟨2, x, y, n, mn, mx, s0, s1, s2, s3⟩) rfl
  clear he
  have k0 := h.cell 0 (i := 0) rfl rfl
  have k1 := h.cell 0 (i := 1) rfl rfl
  have k2 := h.cell 0 (i := 2) rfl rfl
  have k3 := h.cell 0 (i := 3) rfl rfl
  have k4 := h.cell 0 (i := 4) rfl rfl
  have k5 := h.cell 0 (i := 5) rfl rfl
  have ka : ∀ j, j < 4 → m3.cell (((⟨b5, 0, none⟩ : Addr).add 6).add j) = some (.int .u64 ([s0, s1, s2, s3].getD j 0)) := fun j hj => by
    have : j = 0 ∨ j = 1 ∨ j = 2 ∨ j = 3 := by omega
    rcases this with rfl | rfl | rfl | rfl
    · exact h.cell 0 (i := 6) rfl rfl
    · exact h.cell 0 (i := 7) rfl rfl
    · exact h.cell 0 (i := 8) rfl rfl
    · exact h.cell 0 (i := 9) rfl rfl
  have hk := h.kept 1 rfl
  clear h
  (conv => whnf)
  refine ⟨_, k0, ?_⟩
  (conv => whnf)
  refine FCalls.mono (rof1 (u := ⟨false, true, true, false, false, false⟩) rfl (d := false) rfl) ?_
  rintro v m' ⟨rfl, rfl⟩
  have hF : fineF q k = ((false || decide (s0 = 0 ∧ s1 = 0 ∧ s2 = 0 ∧ s3 = 0)) && withinF true x q.ins.length && withinF true y q.ins.length && withinF false n q.groups && boundsF ⟨2, x, y, n, mn, mx, s0, s1, s2, s3⟩ && (!false || decide (k + 1 < q.ins.length))) := by
    unfold fineF
    rw [hi]
    rfl
  clear hc hp
  have hw : IntKind.i64.wrap (((q.ins.length : Nat) : Int) - 1) = ((q.ins.length : Nat) : Int) - 1 := wrap_id (by omega) (by omega)
  (conv => whnf)
  repeat' (first
    | (refine brk_true ?h ?_; (case h => first | rfl | (simp <;> omega)); (conv => whnf))
    | (refine brk_false ?h ?_; (case h => first | rfl | (simp <;> omega)); (conv => whnf))
    | (refine brk_intro (fun c => ?_) (fun c => ?_) <;> (simp at c) <;> (conv => whnf))
    | (refine ⟨_, k0, ?_⟩; (conv => whnf))
    | (refine ⟨_, k1, ?_⟩; (conv => whnf))
    | (refine ⟨_, k2, ?_⟩; (conv => whnf))
    | (refine ⟨_, k3, ?_⟩; (conv => whnf))
    | (refine ⟨_, k4, ?_⟩; (conv => whnf))
    | (refine ⟨_, k5, ?_⟩; (conv => whnf))
    | (show ∃ xs : List Int, _; refine ⟨[s0, s1, s2, s3], rfl, ka, ?_⟩; (conv => whnf); refine ⟨rfl, rfl, ?_⟩; (conv => whnf)))
  all_goals
    refine ⟨m, hk, ?_, rfl⟩
    change Value.bool _ = Value.bool _
    refine congrArg Value.bool ?_
    rw [hF]
    clear hF
  all_goals first
    | (simp_all [withinF, boundsF]; done)
    | (simp_all [withinF, boundsF]; omega)
    | (simp [withinF, boundsF]; omega)
theorem rfine_3 {m : Mem} {q : Prg} {k : Nat} {x y n mn mx s0 s1 s2 s3 : Int} (hq : q.at m) (hi : q.ins[k]? = some ⟨3, x, y, n, mn, mx, s0, s1, s2, s3⟩) (hn : q.ins.length ≤ 1048576) :
    FCalls Tryz.prog 33 [q.val, .int .i64 ((k : Nat) : Int)] m fun v m' => v = .bool (fineF q k) ∧ m' = m := by
  obtain ⟨p, hp, hc⟩ := ins_at hq hi
  have hlt := (List.getElem?_eq_some_iff.1 hi).1
  refine FCalls.less ?_
  refine fcalls_of_vc (T := tbl) (B := bodies) (pr := [99999, 2, 6]) (DR := dr33) (args := [.v q.val, .v (.int .i64 ((k : Nat) : Int))]) tbl_ok bodies_ok mixed Tryz.func33 rfl (by decide +kernel) (by simp [Tryz.f33]) rfl ?_
  (conv => whnf)
  refine ⟨p, hp, by omega, by omega, ?_⟩
  (conv => whnf)
  refine ⟨_, hc 0 _ rfl, ?_⟩
  (conv => whnf)
  refine ⟨_, hc 1 _ rfl, ?_⟩
  (conv => whnf)
  refine ⟨_, hc 2 _ rfl, ?_⟩
  (conv => whnf)
  refine ⟨_, hc 3 _ rfl, ?_⟩
  (conv => whnf)
  refine ⟨_, hc 4 _ rfl, ?_⟩
  (conv => whnf)
  refine ⟨_, hc 5 _ rfl, ?_⟩
  (conv => whnf)
  refine ⟨_, hc 6 _ rfl, ?_⟩
  (conv => whnf)
  refine ⟨_, hc 7 _ rfl, ?_⟩
  (conv => whnf)
  refine ⟨_, hc 8 _ rfl, ?_⟩
  (conv => whnf)
  refine ⟨_, hc 9 _ rfl, ?_⟩
  (conv => whnf)
  intro b5 m2 hb he
  have h := (Sep.init m).new' (l := (tbl.at 56).zero.list) hb he
  clear hb he
  (conv => whnf)
  refine ⟨h.rooms 0 (i := 0) rfl (by decide), fun m3 he => ?_⟩
  replace h := he ▸ h.putAll 0 (i := 0) (Ins.cells ⟨3, x, y, n, mn, mx, s0, s1, s2, s3⟩) rfl
  clear he
  have k0 := h.cell 0 (i := 0) rfl rfl
  have k1 := h.cell 0 (i := 1) rfl rfl
  have k2 := h.cell 0 (i := 2) rfl rfl
  have k3 := h.cell 0 (i := 3) rfl rfl
  have k4 := h.cell 0 (i := 4) rfl rfl
  have k5 := h.cell 0 (i := 5) rfl rfl
  have ka : ∀ j, j < 4 → m3.cell (((⟨b5, 0, none⟩ : Addr).add 6).add j) = some (.int .u64 ([s0, s1, s2, s3].getD j 0)) := fun j hj => by
    have : j = 0 ∨ j = 1 ∨ j = 2 ∨ j = 3 := by omega
    rcases this with rfl | rfl | rfl | rfl
    · exact h.cell 0 (i := 6) rfl rfl
    · exact h.cell 0 (i := 7) rfl rfl
    · exact h.cell 0 (i := 8) rfl rfl
    · exact h.cell 0 (i := 9) rfl rfl
  have hk := h.kept 1 rfl
  clear h
  (conv => whnf)
  refine ⟨_, k0, ?_⟩
  (conv => whnf)
  refine FCalls.mono (rof1 (u := ⟨false, true, false, false, false, false⟩) rfl (d := false) rfl) ?_
  rintro v m' ⟨rfl, rfl⟩
  have hF : fineF q k = ((false || decide (s0 = 0 ∧ s1 = 0 ∧ s2 = 0 ∧ s3 = 0)) && withinF true x q.ins.length && withinF false y q.ins.length && withinF false n q.groups && boundsF ⟨3, x, y, n, mn, mx, s0, s1, s2, s3⟩ && (!false || decide (k + 1 < q.ins.length))) := by
    unfold fineF
    rw [hi]
    rfl
  clear hc hp
  have hw : IntKind.i64.wrap (((q.ins.length : Nat) : Int) - 1) = ((q.ins.length : Nat) : Int) - 1 := wrap_id (by omega) (by omega)
  (conv => whnf)
  repeat' (first
    | (refine brk_true ?h ?_; (case h => first | rfl | (simp <;> omega)); (conv => whnf))
    | (refine brk_false ?h ?_; (case h => first | rfl | (simp <;> omega)); (conv => whnf))
    | (refine brk_intro (fun c => ?_) (fun c => ?_) <;> (simp at c) <;> (conv => whnf))
    | (refine ⟨_, k0, ?_⟩; (conv => whnf))
    | (refine ⟨_, k1, ?_⟩; (conv => whnf))
    | (refine ⟨_, k2, ?_⟩; (conv => whnf))
    | (refine ⟨_, k3, ?_⟩; (conv => whnf))
    | (refine ⟨_, k4, ?_⟩; (conv => whnf))
    | (refine ⟨_, k5, ?_⟩; (conv => whnf))
    | (show ∃ xs : List Int, _; refine ⟨[s0, s1, s2, s3], rfl, ka, ?_⟩; (conv => whnf); refine ⟨rfl, rfl, ?_⟩; (conv => whnf)))
  all_goals
    refine ⟨m, hk, ?_, rfl⟩
    change Value.bool _ = Value.bool _
    refine congrArg Value.bool ?_
    rw [hF]
    clear hF
  all_goals first
    | (simp_all [withinF, boundsF]; done)
    | (simp_all [withinF, boundsF]; omega)
    | (simp [withinF, boundsF]; omega)
theorem rfine_4 {m : Mem} {q : Prg} {k : Nat} {x y n mn mx s0 s1 s2 s3 : Int} (hq : q.at m) (hi : q.ins[k]? = some ⟨4, x, y, n, mn, mx, s0, s1, s2, s3⟩) (hn : q.ins.length ≤ 1048576) :
    FCalls Tryz.prog 33 [q.val, .int .i64 ((k : Nat) : Int)] m fun v m' => v = .bool (fineF q k) ∧ m' = m := by
  obtain ⟨p, hp, hc⟩ := ins_at hq hi
  have hlt := (List.getElem?_eq_some_iff.1 hi).1
  refine FCalls.less ?_
  refine fcalls_of_vc (T := tbl) (B := bodies) (pr := [99999, 2, 6]) (DR := dr33) (args := [.v q.val, .v (.int .i64 ((k : Nat) : Int))]) tbl_ok bodies_ok mixed Tryz.func33 rfl (by decide +kernel) (by simp [Tryz.f33]) rfl ?_
  (conv => whnf)
  refine ⟨p, hp, by omega, by omega, ?_⟩
  (conv => whnf)
  refine ⟨_, hc 0 _ rfl, ?_⟩
  (conv => whnf)
  refine ⟨_, hc 1 _ rfl, ?_⟩
  (conv => whnf)
  refine ⟨_, hc 2 _ rfl, ?_⟩
  (conv => whnf)
  refine ⟨_, hc 3 _ rfl, ?_⟩
  (conv => whnf)
  refine ⟨_, hc 4 _ rfl, ?_⟩
  (conv => whnf)
  refine ⟨_, hc 5 _ rfl, ?_⟩
  (conv => whnf)
  refine ⟨_, hc 6 _ rfl, ?_⟩
  (conv => whnf)
  refine ⟨_, hc 7 _ rfl, ?_⟩
  (conv => whnf)
  refine ⟨_, hc 8 _ rfl, ?_⟩
  (conv => whnf)
  refine ⟨_, hc 9 _ rfl, ?_⟩
  (conv => whnf)
  intro b5 m2 hb he
  have h := (Sep.init m).new' (l := (tbl.at 56).zero.list) hb he
  clear hb he
  (conv => whnf)
  refine ⟨h.rooms 0 (i := 0) rfl (by decide), fun m3 he => ?_⟩
  replace h := he ▸ h.putAll 0 (i := 0) (Ins.cells ⟨4, x, y, n, mn, mx, s0, s1, s2, s3⟩) rfl
  clear he
  have k0 := h.cell 0 (i := 0) rfl rfl
  have k1 := h.cell 0 (i := 1) rfl rfl
  have k2 := h.cell 0 (i := 2) rfl rfl
  have k3 := h.cell 0 (i := 3) rfl rfl
  have k4 := h.cell 0 (i := 4) rfl rfl
  have k5 := h.cell 0 (i := 5) rfl rfl
  have ka : ∀ j, j < 4 → m3.cell (((⟨b5, 0, none⟩ : Addr).add 6).add j) = some (.int .u64 ([s0, s1, s2, s3].getD j 0)) := fun j hj => by
    have : j = 0 ∨ j = 1 ∨ j = 2 ∨ j = 3 := by omega
    rcases this with rfl | rfl | rfl | rfl
    · exact h.cell 0 (i := 6) rfl rfl
    · exact h.cell 0 (i := 7) rfl rfl
    · exact h.cell 0 (i := 8) rfl rfl
    · exact h.cell 0 (i := 9) rfl rfl
  have hk := h.kept 1 rfl
  clear h
  (conv => whnf)
  refine ⟨_, k0, ?_⟩
  (conv => whnf)
  refine FCalls.mono (rof1 (u := ⟨false, false, false, false, false, true⟩) rfl (d := false) rfl) ?_
  rintro v m' ⟨rfl, rfl⟩
  have hF : fineF q k = ((false || decide (s0 = 0 ∧ s1 = 0 ∧ s2 = 0 ∧ s3 = 0)) && withinF false x q.ins.length && withinF false y q.ins.length && withinF false n q.groups && boundsF ⟨4, x, y, n, mn, mx, s0, s1, s2, s3⟩ && (!true || decide (k + 1 < q.ins.length))) := by
    unfold fineF
    rw [hi]
    rfl
  clear hc hp
  have hw : IntKind.i64.wrap (((q.ins.length : Nat) : Int) - 1) = ((q.ins.length : Nat) : Int) - 1 := wrap_id (by omega) (by omega)
  (conv => whnf)
  repeat' (first
    | (refine brk_true ?h ?_; (case h => first | rfl | (simp <;> omega)); (conv => whnf))
    | (refine brk_false ?h ?_; (case h => first | rfl | (simp <;> omega)); (conv => whnf))
    | (refine brk_intro (fun c => ?_) (fun c => ?_) <;> (simp at c) <;> (conv => whnf))
    | (refine ⟨_, k0, ?_⟩; (conv => whnf))
    | (refine ⟨_, k1, ?_⟩; (conv => whnf))
    | (refine ⟨_, k2, ?_⟩; (conv => whnf))
    | (refine ⟨_, k3, ?_⟩; (conv => whnf))
    | (refine ⟨_, k4, ?_⟩; (conv => whnf))
    | (refine ⟨_, k5, ?_⟩; (conv => whnf))
    | (show ∃ xs : List Int, _; refine ⟨[s0, s1, s2, s3], rfl, ka, ?_⟩; (conv => whnf); refine ⟨rfl, rfl, ?_⟩; (conv => whnf)))
  all_goals
    refine ⟨m, hk, ?_, rfl⟩
    change Value.bool _ = Value.bool _
    refine congrArg Value.bool ?_
    rw [hF]
    clear hF
  all_goals first
    | (simp_all [withinF, boundsF]; done)
    | (simp_all [withinF, boundsF]; omega)
    | (simp [withinF, boundsF]; omega)
theorem rfine_5 {m : Mem} {q : Prg} {k : Nat} {x y n mn mx s0 s1 s2 s3 : Int} (hq : q.at m) (hi : q.ins[k]? = some ⟨5, x, y, n, mn, mx, s0, s1, s2, s3⟩) (hn : q.ins.length ≤ 1048576) :
    FCalls Tryz.prog 33 [q.val, .int .i64 ((k : Nat) : Int)] m fun v m' => v = .bool (fineF q k) ∧ m' = m := by
  obtain ⟨p, hp, hc⟩ := ins_at hq hi
  have hlt := (List.getElem?_eq_some_iff.1 hi).1
  refine FCalls.less ?_
  refine fcalls_of_vc (T := tbl) (B := bodies) (pr := [99999, 2, 6]) (DR := dr33) (args := [.v q.val, .v (.int .i64 ((k : Nat) : Int))]) tbl_ok bodies_ok mixed Tryz.func33 rfl (by decide +kernel) (by simp [Tryz.f33]) rfl ?_
  (conv => whnf)
  refine ⟨p, hp, by omega, by omega, ?_⟩
  (conv => whnf)
  refine ⟨_, hc 0 _ rfl, ?_⟩
  (conv => whnf)
  refine ⟨_, hc 1 _ rfl, ?_⟩
  (conv => whnf)
  refine ⟨_, hc 2 _ rfl, ?_⟩
  (conv => whnf)
  refine ⟨_, hc 3 _ rfl, ?_⟩
  (conv => whnf)
  refine ⟨_, hc 4 _ rfl, ?_⟩
  (conv => whnf)
  refine ⟨_, hc 5 _ rfl, ?_⟩
  (conv => whnf)
  refine ⟨_, hc 6 _ rfl, ?_⟩
  (conv => whnf)
  refine ⟨_, hc 7 _ rfl, ?_⟩
  (conv => whnf)
  refine ⟨_, hc 8 _ rfl, ?_⟩
  (conv => whnf)
  refine ⟨_, hc 9 _ rfl, ?_⟩
  (conv => whnf)
  intro b5 m2 hb he
  have h := (Sep.init m).new' (l := (tbl.at 56).zero.list) hb he
  clear hb he
  (conv => whnf)
  refine ⟨h.rooms 0 (i := 0) rfl (by decide), fun m3 he => ?_⟩
  replace h := he ▸ h.putAll 0 (i := 0) (Ins.cells ⟨5, x, y, n, mn, mx, s0, s1, s2, s3⟩) rfl
  clear he
  have k0 := h.cell 0 (i := 0) rfl rfl
  have k1 := h.cell 0 (i := 1) rfl rfl
  have k2 := h.cell 0 (i := 2) rfl rfl
  have k3 := h.cell 0 (i := 3) rfl rfl
  have k4 := h.cell 0 (i := 4) rfl rfl
  have k5 := h.cell 0 (i := 5) rfl rfl
  have ka : ∀ j, j < 4 → m3.cell (((⟨b5, 0, none⟩ : Addr).add 6).add j) = some (.int .u64 ([s0, s1, s2, s3].getD j 0)) := fun j hj => by
    have : j = 0 ∨ j = 1 ∨ j = 2 ∨ j = 3 := by omega
    rcases this with rfl | rfl | rfl | rfl
    · exact h.cell 0 (i := 6) rfl rfl
    · exact h.cell 0 (i := 7) rfl rfl
    · exact h.cell 0 (i := 8) rfl rfl
    · exact h.cell 0 (i := 9) rfl rfl
  have hk := h.kept 1 rfl
  clear h
  (conv => whnf)
  refine ⟨_, k0, ?_⟩
  (conv => whnf)
  refine FCalls.mono (rof1 (u := ⟨false, false, false, false, false, true⟩) rfl (d := false) rfl) ?_
  rintro v m' ⟨rfl, rfl⟩
  have hF : fineF q k = ((false || decide (s0 = 0 ∧ s1 = 0 ∧ s2 = 0 ∧ s3 = 0)) && withinF false x q.ins.length && withinF false y q.ins.length && withinF false n q.groups && boundsF ⟨5, x, y, n, mn, mx, s0, s1, s2, s3⟩ && (!true || decide (k + 1 < q.ins.length))) := by
    unfold fineF
    rw [hi]
    rfl
  clear hc hp
  have hw : IntKind.i64.wrap (((q.ins.length : Nat) : Int) - 1) = ((q.ins.length : Nat) : Int) - 1 := wrap_id (by omega) (by omega)
  (conv => whnf)
  repeat' (first
    | (refine brk_true ?h ?_; (case h => first | rfl | (simp <;> omega)); (conv => whnf))
    | (refine brk_false ?h ?_; (case h => first | rfl | (simp <;> omega)); (conv => whnf))
    | (refine brk_intro (fun c => ?_) (fun c => ?_) <;> (simp at c) <;> (conv => whnf))
    | (refine ⟨_, k0, ?_⟩; (conv => whnf))
    | (refine ⟨_, k1, ?_⟩; (conv => whnf))
    | (refine ⟨_, k2, ?_⟩; (conv => whnf))
    | (refine ⟨_, k3, ?_⟩; (conv => whnf))
    | (refine ⟨_, k4, ?_⟩; (conv => whnf))
    | (refine ⟨_, k5, ?_⟩; (conv => whnf))
    | (show ∃ xs : List Int, _; refine ⟨[s0, s1, s2, s3], rfl, ka, ?_⟩; (conv => whnf); refine ⟨rfl, rfl, ?_⟩; (conv => whnf)))
  all_goals
    refine ⟨m, hk, ?_, rfl⟩
    change Value.bool _ = Value.bool _
    refine congrArg Value.bool ?_
    rw [hF]
    clear hF
  all_goals first
    | (simp_all [withinF, boundsF]; done)
    | (simp_all [withinF, boundsF]; omega)
    | (simp [withinF, boundsF]; omega)
theorem rfine_6 {m : Mem} {q : Prg} {k : Nat} {x y n mn mx s0 s1 s2 s3 : Int} (hq : q.at m) (hi : q.ins[k]? = some ⟨6, x, y, n, mn, mx, s0, s1, s2, s3⟩) (hn : q.ins.length ≤ 1048576) :
    FCalls Tryz.prog 33 [q.val, .int .i64 ((k : Nat) : Int)] m fun v m' => v = .bool (fineF q k) ∧ m' = m := by
  obtain ⟨p, hp, hc⟩ := ins_at hq hi
  have hlt := (List.getElem?_eq_some_iff.1 hi).1
  refine FCalls.less ?_
  refine fcalls_of_vc (T := tbl) (B := bodies) (pr := [99999, 2, 6]) (DR := dr33) (args := [.v q.val, .v (.int .i64 ((k : Nat) : Int))]) tbl_ok bodies_ok mixed Tryz.func33 rfl (by decide +kernel) (by simp [Tryz.f33]) rfl ?_
  (conv => whnf)
  refine ⟨p, hp, by omega, by omega, ?_⟩
  (conv => whnf)
  refine ⟨_, hc 0 _ rfl, ?_⟩
  (conv => whnf)
  refine ⟨_, hc 1 _ rfl, ?_⟩
  (conv => whnf)
  refine ⟨_, hc 2 _ rfl, ?_⟩
  (conv => whnf)
  refine ⟨_, hc 3 _ rfl, ?_⟩
  (conv => whnf)
  refine ⟨_, hc 4 _ rfl, ?_⟩
  (conv => whnf)
  refine ⟨_, hc 5 _ rfl, ?_⟩
  (conv => whnf)
  refine ⟨_, hc 6 _ rfl, ?_⟩
  (conv => whnf)
  refine ⟨_, hc 7 _ rfl, ?_⟩
  (conv => whnf)
  refine ⟨_, hc 8 _ rfl, ?_⟩
  (conv => whnf)
  refine ⟨_, hc 9 _ rfl, ?_⟩
  (conv => whnf)
  intro b5 m2 hb he
  have h := (Sep.init m).new' (l := (tbl.at 56).zero.list) hb he
  clear hb he
  (conv => whnf)
  refine ⟨h.rooms 0 (i := 0) rfl (by decide), fun m3 he => ?_⟩
  replace h := he ▸ h.putAll 0 (i := 0) (Ins.cells ⟨6, x, y, n, mn, mx, s0, s1, s2, s3⟩) rfl
  clear he
  have k0 := h.cell 0 (i := 0) rfl rfl
  have k1 := h.cell 0 (i := 1) rfl rfl
  have k2 := h.cell 0 (i := 2) rfl rfl
  have k3 := h.cell 0 (i := 3) rfl rfl
  have k4 := h.cell 0 (i := 4) rfl rfl
  have k5 := h.cell 0 (i := 5) rfl rfl
  have ka : ∀ j, j < 4 → m3.cell (((⟨b5, 0, none⟩ : Addr).add 6).add j) = some (.int .u64 ([s0, s1, s2, s3].getD j 0)) := fun j hj => by
    have : j = 0 ∨ j = 1 ∨ j = 2 ∨ j = 3 := by omega
    rcases this with rfl | rfl | rfl | rfl
    · exact h.cell 0 (i := 6) rfl rfl
    · exact h.cell 0 (i := 7) rfl rfl
    · exact h.cell 0 (i := 8) rfl rfl
    · exact h.cell 0 (i := 9) rfl rfl
  have hk := h.kept 1 rfl
  clear h
  (conv => whnf)
  refine ⟨_, k0, ?_⟩
  (conv => whnf)
  refine FCalls.mono (rof1 (u := ⟨false, false, false, true, false, true⟩) rfl (d := false) rfl) ?_
  rintro v m' ⟨rfl, rfl⟩
  have hF : fineF q k = ((false || decide (s0 = 0 ∧ s1 = 0 ∧ s2 = 0 ∧ s3 = 0)) && withinF false x q.ins.length && withinF false y q.ins.length && withinF true n q.groups && boundsF ⟨6, x, y, n, mn, mx, s0, s1, s2, s3⟩ && (!true || decide (k + 1 < q.ins.length))) := by
    unfold fineF
    rw [hi]
    rfl
  clear hc hp
  have hw : IntKind.i64.wrap (((q.ins.length : Nat) : Int) - 1) = ((q.ins.length : Nat) : Int) - 1 := wrap_id (by omega) (by omega)
  (conv => whnf)
  repeat' (first
    | (refine brk_true ?h ?_; (case h => first | rfl | (simp <;> omega)); (conv => whnf))
    | (refine brk_false ?h ?_; (case h => first | rfl | (simp <;> omega)); (conv => whnf))
    | (refine brk_intro (fun c => ?_) (fun c => ?_) <;> (simp at c) <;> (conv => whnf))
    | (refine ⟨_, k0, ?_⟩; (conv => whnf))
    | (refine ⟨_, k1, ?_⟩; (conv => whnf))
    | (refine ⟨_, k2, ?_⟩; (conv => whnf))
    | (refine ⟨_, k3, ?_⟩; (conv => whnf))
    | (refine ⟨_, k4, ?_⟩; (conv => whnf))
    | (refine ⟨_, k5, ?_⟩; (conv => whnf))
    | (show ∃ xs : List Int, _; refine ⟨[s0, s1, s2, s3], rfl, ka, ?_⟩; (conv => whnf); refine ⟨rfl, rfl, ?_⟩; (conv => whnf)))
  all_goals
    refine ⟨m, hk, ?_, rfl⟩
    change Value.bool _ = Value.bool _
    refine congrArg Value.bool ?_
    rw [hF]
    clear hF
  all_goals first
    | (simp_all [withinF, boundsF]; done)
    | (simp_all [withinF, boundsF]; omega)
    | (simp [withinF, boundsF]; omega)
theorem rfine_7 {m : Mem} {q : Prg} {k : Nat} {x y n mn mx s0 s1 s2 s3 : Int} (hq : q.at m) (hi : q.ins[k]? = some ⟨7, x, y, n, mn, mx, s0, s1, s2, s3⟩) (hn : q.ins.length ≤ 1048576) :
    FCalls Tryz.prog 33 [q.val, .int .i64 ((k : Nat) : Int)] m fun v m' => v = .bool (fineF q k) ∧ m' = m := by
  obtain ⟨p, hp, hc⟩ := ins_at hq hi
  have hlt := (List.getElem?_eq_some_iff.1 hi).1
  refine FCalls.less ?_
  refine fcalls_of_vc (T := tbl) (B := bodies) (pr := [99999, 2, 6]) (DR := dr33) (args := [.v q.val, .v (.int .i64 ((k : Nat) : Int))]) tbl_ok bodies_ok mixed Tryz.func33 rfl (by decide +kernel) (by simp [Tryz.f33]) rfl ?_
  (conv => whnf)
  refine ⟨p, hp, by omega, by omega, ?_⟩
  (conv => whnf)
  refine ⟨_, hc 0 _ rfl, ?_⟩
  (conv => whnf)
  refine ⟨_, hc 1 _ rfl, ?_⟩
  (conv => whnf)
  refine ⟨_, hc 2 _ rfl, ?_⟩
  (conv => whnf)
  refine ⟨_, hc 3 _ rfl, ?_⟩
  (conv => whnf)
  refine ⟨_, hc 4 _ rfl, ?_⟩
  (conv => whnf)
  refine ⟨_, hc 5 _ rfl, ?_⟩
  (conv => whnf)
  refine ⟨_, hc 6 _ rfl, ?_⟩
  (conv => whnf)
  refine ⟨_, hc 7 _ rfl, ?_⟩
  (conv => whnf)
  refine ⟨_, hc 8 _ rfl, ?_⟩
  (conv => whnf)
  refine ⟨_, hc 9 _ rfl, ?_⟩
  (conv => whnf)
  intro b5 m2 hb he
  have h := (Sep.init m).new' (l := (tbl.at 56).zero.list) hb he
  clear hb he
  (conv => whnf)
  refine ⟨h.rooms 0 (i := 0) rfl (by decide), fun m3 he => ?_⟩
  replace h := he ▸ h.putAll 0 (i := 0) (Ins.cells ⟨7, x, y, n, mn, mx, s0, s1, s2, s3⟩) rfl
  clear he
  have k0 := h.cell 0 (i := 0) rfl rfl
  have k1 := h.cell 0 (i := 1) rfl rfl
  have k2 := h.cell 0 (i := 2) rfl rfl
  have k3 := h.cell 0 (i := 3) rfl rfl
  have k4 := h.cell 0 (i := 4) rfl rfl
  have k5 := h.cell 0 (i := 5) rfl rfl
  have ka : ∀ j, j < 4 → m3.cell (((⟨b5, 0, none⟩ : Addr).add 6).add j) = some (.int .u64 ([s0, s1, s2, s3].getD j 0)) := fun j hj => by
    have : j = 0 ∨ j = 1 ∨ j = 2 ∨ j = 3 := by omega
    rcases this with rfl | rfl | rfl | rfl
    · exact h.cell 0 (i := 6) rfl rfl
    · exact h.cell 0 (i := 7) rfl rfl
    · exact h.cell 0 (i := 8) rfl rfl
    · exact h.cell 0 (i := 9) rfl rfl
  have hk := h.kept 1 rfl
  clear h
  (conv => whnf)
  refine ⟨_, k0, ?_⟩
  (conv => whnf)
  refine FCalls.mono (rof1 (u := ⟨false, false, false, true, false, true⟩) rfl (d := false) rfl) ?_
  rintro v m' ⟨rfl, rfl⟩
  have hF : fineF q k = ((false || decide (s0 = 0 ∧ s1 = 0 ∧ s2 = 0 ∧ s3 = 0)) && withinF false x q.ins.length && withinF false y q.ins.length && withinF true n q.groups && boundsF ⟨7, x, y, n, mn, mx, s0, s1, s2, s3⟩ && (!true || decide (k + 1 < q.ins.length))) := by
    unfold fineF
    rw [hi]
    rfl
  clear hc hp
  have hw : IntKind.i64.wrap (((q.ins.length : Nat) : Int) - 1) = ((q.ins.length : Nat) : Int) - 1 := wrap_id (by omega) (by omega)
  (conv => whnf)
  repeat' (first
    | (refine brk_true ?h ?_; (case h => first | rfl | (simp <;> omega)); (conv => whnf))
    | (refine brk_false ?h ?_; (case h => first | rfl | (simp <;> omega)); (conv => whnf))
    | (refine brk_intro (fun c => ?_) (fun c => ?_) <;> (simp at c) <;> (conv => whnf))
    | (refine ⟨_, k0, ?_⟩; (conv => whnf))
    | (refine ⟨_, k1, ?_⟩; (conv => whnf))
    | (refine ⟨_, k2, ?_⟩; (conv => whnf))
    | (refine ⟨_, k3, ?_⟩; (conv => whnf))
    | (refine ⟨_, k4, ?_⟩; (conv => whnf))
    | (refine ⟨_, k5, ?_⟩; (conv => whnf))
    | (show ∃ xs : List Int, _; refine ⟨[s0, s1, s2, s3], rfl, ka, ?_⟩; (conv => whnf); refine ⟨rfl, rfl, ?_⟩; (conv => whnf)))
  all_goals
    refine ⟨m, hk, ?_, rfl⟩
    change Value.bool _ = Value.bool _
    refine congrArg Value.bool ?_
    rw [hF]
    clear hF
  all_goals first
    | (simp_all [withinF, boundsF]; done)
    | (simp_all [withinF, boundsF]; omega)
    | (simp [withinF, boundsF]; omega)
theorem rfine_8 {m : Mem} {q : Prg} {k : Nat} {x y n mn mx s0 s1 s2 s3 : Int} (hq : q.at m) (hi : q.ins[k]? = some ⟨8, x, y, n, mn, mx, s0, s1, s2, s3⟩) (hn : q.ins.length ≤ 1048576) :
    FCalls Tryz.prog 33 [q.val, .int .i64 ((k : Nat) : Int)] m fun v m' => v = .bool (fineF q k) ∧ m' = m := by
  obtain ⟨p, hp, hc⟩ := ins_at hq hi
  have hlt := (List.getElem?_eq_some_iff.1 hi).1
  refine FCalls.less ?_
  refine fcalls_of_vc (T := tbl) (B := bodies) (pr := [99999, 2, 6]) (DR := dr33) (args := [.v q.val, .v (.int .i64 ((k : Nat) : Int))]) tbl_ok bodies_ok mixed Tryz.func33 rfl (by decide +kernel) (by simp [Tryz.f33]) rfl ?_
  (conv => whnf)
  refine ⟨p, hp, by omega, by omega, ?_⟩
  (conv => whnf)
  refine ⟨_, hc 0 _ rfl, ?_⟩
  (conv => whnf)
  refine ⟨_, hc 1 _ rfl, ?_⟩
  (conv => whnf)
  refine ⟨_, hc 2 _ rfl, ?_⟩
  (conv => whnf)
  refine ⟨_, hc 3 _ rfl, ?_⟩
  (conv => whnf)
  refine ⟨_, hc 4 _ rfl, ?_⟩
  (conv => whnf)
  refine ⟨_, hc 5 _ rfl, ?_⟩
  (conv => whnf)
  refine ⟨_, hc 6 _ rfl, ?_⟩
  (conv => whnf)
  refine ⟨_, hc 7 _ rfl, ?_⟩
  (conv => whnf)
  refine ⟨_, hc 8 _ rfl, ?_⟩
  (conv => whnf)
  refine ⟨_, hc 9 _ rfl, ?_⟩
  (conv => whnf)
  intro b5 m2 hb he
  have h := (Sep.init m).new' (l := (tbl.at 56).zero.list) hb he
  clear hb he
  (conv => whnf)
  refine ⟨h.rooms 0 (i := 0) rfl (by decide), fun m3 he => ?_⟩
  replace h := he ▸ h.putAll 0 (i := 0) (Ins.cells ⟨8, x, y, n, mn, mx, s0, s1, s2, s3⟩) rfl
  clear he
  have k0 := h.cell 0 (i := 0) rfl rfl
  have k1 := h.cell 0 (i := 1) rfl rfl
  have k2 := h.cell 0 (i := 2) rfl rfl
  have k3 := h.cell 0 (i := 3) rfl rfl
  have k4 := h.cell 0 (i := 4) rfl rfl
  have k5 := h.cell 0 (i := 5) rfl rfl
  have ka : ∀ j, j < 4 → m3.cell (((⟨b5, 0, none⟩ : Addr).add 6).add j) = some (.int .u64 ([s0, s1, s2, s3].getD j 0)) := fun j hj => by
    have : j = 0 ∨ j = 1 ∨ j = 2 ∨ j = 3 := by omega
    rcases this with rfl | rfl | rfl | rfl
    · exact h.cell 0 (i := 6) rfl rfl
    · exact h.cell 0 (i := 7) rfl rfl
    · exact h.cell 0 (i := 8) rfl rfl
    · exact h.cell 0 (i := 9) rfl rfl
  have hk := h.kept 1 rfl
  clear h
  (conv => whnf)
  refine ⟨_, k0, ?_⟩
  (conv => whnf)
  refine FCalls.mono (rof1 (u := ⟨false, false, false, true, false, true⟩) rfl (d := false) rfl) ?_
  rintro v m' ⟨rfl, rfl⟩
  have hF : fineF q k = ((false || decide (s0 = 0 ∧ s1 = 0 ∧ s2 = 0 ∧ s3 = 0)) && withinF false x q.ins.length && withinF false y q.ins.length && withinF true n q.groups && boundsF ⟨8, x, y, n, mn, mx, s0, s1, s2, s3⟩ && (!true || decide (k + 1 < q.ins.length))) := by
    unfold fineF
    rw [hi]
    rfl
  clear hc hp
  have hw : IntKind.i64.wrap (((q.ins.length : Nat) : Int) - 1) = ((q.ins.length : Nat) : Int) - 1 := wrap_id (by omega) (by omega)
  (conv => whnf)
  repeat' (first
    | (refine brk_true ?h ?_; (case h => first | rfl | (simp <;> omega)); (conv => whnf))
    | (refine brk_false ?h ?_; (case h => first | rfl | (simp <;> omega)); (conv => whnf))
    | (refine brk_intro (fun c => ?_) (fun c => ?_) <;> (simp at c) <;> (conv => whnf))
    | (refine ⟨_, k0, ?_⟩; (conv => whnf))
    | (refine ⟨_, k1, ?_⟩; (conv => whnf))
    | (refine ⟨_, k2, ?_⟩; (conv => whnf))
    | (refine ⟨_, k3, ?_⟩; (conv => whnf))
    | (refine ⟨_, k4, ?_⟩; (conv => whnf))
    | (refine ⟨_, k5, ?_⟩; (conv => whnf))
    | (show ∃ xs : List Int, _; refine ⟨[s0, s1, s2, s3], rfl, ka, ?_⟩; (conv => whnf); refine ⟨rfl, rfl, ?_⟩; (conv => whnf)))
  all_goals
    refine ⟨m, hk, ?_, rfl⟩
    change Value.bool _ = Value.bool _
    refine congrArg Value.bool ?_
    rw [hF]
    clear hF
  all_goals first
    | (simp_all [withinF, boundsF]; done)
    | (simp_all [withinF, boundsF]; omega)
    | (simp [withinF, boundsF]; omega)
theorem rfine_9 {m : Mem} {q : Prg} {k : Nat} {x y n mn mx s0 s1 s2 s3 : Int} (hq : q.at m) (hi : q.ins[k]? = some ⟨9, x, y, n, mn, mx, s0, s1, s2, s3⟩) (hn : q.ins.length ≤ 1048576) :
    FCalls Tryz.prog 33 [q.val, .int .i64 ((k : Nat) : Int)] m fun v m' => v = .bool (fineF q k) ∧ m' = m := by
  obtain ⟨p, hp, hc⟩ := ins_at hq hi
  have hlt := (List.getElem?_eq_some_iff.1 hi).1
  refine FCalls.less ?_
  refine fcalls_of_vc (T := tbl) (B := bodies) (pr := [99999, 2, 6]) (DR := dr33) (args := [.v q.val, .v (.int .i64 ((k : Nat) : Int))]) tbl_ok bodies_ok mixed Tryz.func33 rfl (by decide +kernel) (by simp [Tryz.f33]) rfl ?_
  (conv => whnf)
  refine ⟨p, hp, by omega, by omega, ?_⟩
  (conv => whnf)
  refine ⟨_, hc 0 _ rfl, ?_⟩
  (conv => whnf)
  refine ⟨_, hc 1 _ rfl, ?_⟩
  (conv => whnf)
  refine ⟨_, hc 2 _ rfl, ?_⟩
  (conv => whnf)
  refine ⟨_, hc 3 _ rfl, ?_⟩
  (conv => whnf)
  refine ⟨_, hc 4 _ rfl, ?_⟩
  (conv => whnf)
  refine ⟨_, hc 5 _ rfl, ?_⟩
  (conv => whnf)
  refine ⟨_, hc 6 _ rfl, ?_⟩
  (conv => whnf)
  refine ⟨_, hc 7 _ rfl, ?_⟩
  (conv => whnf)
  refine ⟨_, hc 8 _ rfl, ?_⟩
  (conv => whnf)
  refine ⟨_, hc 9 _ rfl, ?_⟩
  (conv => whnf)
  intro b5 m2 hb he
  have h := (Sep.init m).new' (l := (tbl.at 56).zero.list) hb he
  clear hb he
  (conv => whnf)
  refine ⟨h.rooms 0 (i := 0) rfl (by decide), fun m3 he => ?_⟩
  replace h := he ▸ h.putAll 0 (i := 0) (Ins.cells ⟨9, x, y, n, mn, mx, s0, s1, s2, s3⟩) rfl
  clear he
  have k0 := h.cell 0 (i := 0) rfl rfl
  have k1 := h.cell 0 (i := 1) rfl rfl
  have k2 := h.cell 0 (i := 2) rfl rfl
  have k3 := h.cell 0 (i := 3) rfl rfl
  have k4 := h.cell 0 (i := 4) rfl rfl
  have k5 := h.cell 0 (i := 5) rfl rfl
  have ka : ∀ j, j < 4 → m3.cell (((⟨b5, 0, none⟩ : Addr).add 6).add j) = some (.int .u64 ([s0, s1, s2, s3].getD j 0)) := fun j hj => by
    have : j = 0 ∨ j = 1 ∨ j = 2 ∨ j = 3 := by omega
    rcases this with rfl | rfl | rfl | rfl
    · exact h.cell 0 (i := 6) rfl rfl
    · exact h.cell 0 (i := 7) rfl rfl
    · exact h.cell 0 (i := 8) rfl rfl
    · exact h.cell 0 (i := 9) rfl rfl
  have hk := h.kept 1 rfl
  clear h
  (conv => whnf)
  refine ⟨_, k0, ?_⟩
  (conv => whnf)
  refine FCalls.mono (rof1 (u := ⟨false, false, false, false, true, true⟩) rfl (d := false) rfl) ?_
  rintro v m' ⟨rfl, rfl⟩
  have hF : fineF q k = ((false || decide (s0 = 0 ∧ s1 = 0 ∧ s2 = 0 ∧ s3 = 0)) && withinF false x q.ins.length && withinF false y q.ins.length && withinF true n q.counters && boundsF ⟨9, x, y, n, mn, mx, s0, s1, s2, s3⟩ && (!true || decide (k + 1 < q.ins.length))) := by
    unfold fineF
    rw [hi]
    rfl
  clear hc hp
  have hw : IntKind.i64.wrap (((q.ins.length : Nat) : Int) - 1) = ((q.ins.length : Nat) : Int) - 1 := wrap_id (by omega) (by omega)
  (conv => whnf)
  repeat' (first
    | (refine brk_true ?h ?_; (case h => first | rfl | (simp <;> omega)); (conv => whnf))
    | (refine brk_false ?h ?_; (case h => first | rfl | (simp <;> omega)); (conv => whnf))
    | (refine brk_intro (fun c => ?_) (fun c => ?_) <;> (simp at c) <;> (conv => whnf))
    | (refine ⟨_, k0, ?_⟩; (conv => whnf))
    | (refine ⟨_, k1, ?_⟩; (conv => whnf))
    | (refine ⟨_, k2, ?_⟩; (conv => whnf))
    | (refine ⟨_, k3, ?_⟩; (conv => whnf))
    | (refine ⟨_, k4, ?_⟩; (conv => whnf))
    | (refine ⟨_, k5, ?_⟩; (conv => whnf))
    | (show ∃ xs : List Int, _; refine ⟨[s0, s1, s2, s3], rfl, ka, ?_⟩; (conv => whnf); refine ⟨rfl, rfl, ?_⟩; (conv => whnf)))
  all_goals
    refine ⟨m, hk, ?_, rfl⟩
    change Value.bool _ = Value.bool _
    refine congrArg Value.bool ?_
    rw [hF]
    clear hF
  all_goals first
    | (simp_all [withinF, boundsF]; done)
    | (simp_all [withinF, boundsF]; omega)
    | (simp [withinF, boundsF]; omega)
theorem rfine_10 {m : Mem} {q : Prg} {k : Nat} {x y n mn mx s0 s1 s2 s3 : Int} (hq : q.at m) (hi : q.ins[k]? = some ⟨10, x, y, n, mn, mx, s0, s1, s2, s3⟩) (hn : q.ins.length ≤ 1048576) :
    FCalls Tryz.prog 33 [q.val, .int .i64 ((k : Nat) : Int)] m fun v m' => v = .bool (fineF q k) ∧ m' = m := by
  obtain ⟨p, hp, hc⟩ := ins_at hq hi
  have hlt := (List.getElem?_eq_some_iff.1 hi).1
  refine FCalls.less ?_
  refine fcalls_of_vc (T := tbl) (B := bodies) (pr := [99999, 2, 6]) (DR := dr33) (args := [.v q.val, .v (.int .i64 ((k : Nat) : Int))]) tbl_ok bodies_ok mixed Tryz.func33 rfl (by decide +kernel) (by simp [Tryz.f33]) rfl ?_
  (conv => whnf)
  refine ⟨p, hp, by omega, by omega, ?_⟩
  (conv => whnf)
  refine ⟨_, hc 0 _ rfl, ?_⟩
  (conv => whnf)
  refine ⟨_, hc 1 _ rfl, ?_⟩
  (conv => whnf)
  refine ⟨_, hc 2 _ rfl, ?_⟩
  (conv => whnf)
  refine ⟨_, hc 3 _ rfl, ?_⟩
  (conv => whnf)
  refine ⟨_, hc 4 _ rfl, ?_⟩
  (conv => whnf)
  refine ⟨_, hc 5 _ rfl, ?_⟩
  (conv => whnf)
  refine ⟨_, hc 6 _ rfl, ?_⟩
  (conv => whnf)
  refine ⟨_, hc 7 _ rfl, ?_⟩
  (conv => whnf)
  refine ⟨_, hc 8 _ rfl, ?_⟩
  (conv => whnf)
  refine ⟨_, hc 9 _ rfl, ?_⟩
  (conv => whnf)
  intro b5 m2 hb he
  have h := (Sep.init m).new' (l := (tbl.at 56).zero.list) hb he
  clear hb he
  (conv => whnf)
  refine ⟨h.rooms 0 (i := 0) rfl (by decide), fun m3 he => ?_⟩
  replace h := he ▸ h.putAll 0 (i := 0) (Ins.cells ⟨10, x, y, n, mn, mx, s0, s1, s2, s3⟩) rfl
  clear he
  have k0 := h.cell 0 (i := 0) rfl rfl
  have k1 := h.cell 0 (i := 1) rfl rfl
  have k2 := h.cell 0 (i := 2) rfl rfl
  have k3 := h.cell 0 (i := 3) rfl rfl
  have k4 := h.cell 0 (i := 4) rfl rfl
  have k5 := h.cell 0 (i := 5) rfl rfl
  have ka : ∀ j, j < 4 → m3.cell (((⟨b5, 0, none⟩ : Addr).add 6).add j) = some (.int .u64 ([s0, s1, s2, s3].getD j 0)) := fun j hj => by
    have : j = 0 ∨ j = 1 ∨ j = 2 ∨ j = 3 := by omega
    rcases this with rfl | rfl | rfl | rfl
    · exact h.cell 0 (i := 6) rfl rfl
    · exact h.cell 0 (i := 7) rfl rfl
    · exact h.cell 0 (i := 8) rfl rfl
    · exact h.cell 0 (i := 9) rfl rfl
  have hk := h.kept 1 rfl
  clear h
  (conv => whnf)
  refine ⟨_, k0, ?_⟩
  (conv => whnf)
  refine FCalls.mono (rof1 (u := ⟨false, true, true, false, true, false⟩) rfl (d := true) rfl) ?_
  rintro v m' ⟨rfl, rfl⟩
  have hF : fineF q k = ((false || decide (s0 = 0 ∧ s1 = 0 ∧ s2 = 0 ∧ s3 = 0)) && withinF true x q.ins.length && withinF true y q.ins.length && withinF true n q.counters && boundsF ⟨10, x, y, n, mn, mx, s0, s1, s2, s3⟩ && (!false || decide (k + 1 < q.ins.length))) := by
    unfold fineF
    rw [hi]
    rfl
  clear hc hp
  have hw : IntKind.i64.wrap (((q.ins.length : Nat) : Int) - 1) = ((q.ins.length : Nat) : Int) - 1 := wrap_id (by omega) (by omega)
  (conv => whnf)
  repeat' (first
    | (refine brk_true ?h ?_; (case h => first | rfl | (simp <;> omega)); (conv => whnf))
    | (refine brk_false ?h ?_; (case h => first | rfl | (simp <;> omega)); (conv => whnf))
    | (refine brk_intro (fun c => ?_) (fun c => ?_) <;> (simp at c) <;> (conv => whnf))
    | (refine ⟨_, k0, ?_⟩; (conv => whnf))
    | (refine ⟨_, k1, ?_⟩; (conv => whnf))
    | (refine ⟨_, k2, ?_⟩; (conv => whnf))
    | (refine ⟨_, k3, ?_⟩; (conv => whnf))
    | (refine ⟨_, k4, ?_⟩; (conv => whnf))
    | (refine ⟨_, k5, ?_⟩; (conv => whnf))
    | (show ∃ xs : List Int, _; refine ⟨[s0, s1, s2, s3], rfl, ka, ?_⟩; (conv => whnf); refine ⟨rfl, rfl, ?_⟩; (conv => whnf)))
  all_goals
    refine ⟨m, hk, ?_, rfl⟩
    change Value.bool _ = Value.bool _
    refine congrArg Value.bool ?_
    rw [hF]
    clear hF
  all_goals first
    | (simp_all [withinF, boundsF]; done)
    | (simp_all [withinF, boundsF]; omega)
    | (simp [withinF, boundsF]; omega)
theorem rfine_11 {m : Mem} {q : Prg} {k : Nat} {x y n mn mx s0 s1 s2 s3 : Int} (hq : q.at m) (hi : q.ins[k]? = some ⟨11, x, y, n, mn, mx, s0, s1, s2, s3⟩) (hn : q.ins.length ≤ 1048576) :
    FCalls Tryz.prog 33 [q.val, .int .i64 ((k : Nat) : Int)] m fun v m' => v = .bool (fineF q k) ∧ m' = m := by
  obtain ⟨p, hp, hc⟩ := ins_at hq hi
  have hlt := (List.getElem?_eq_some_iff.1 hi).1
  refine FCalls.less ?_
  refine fcalls_of_vc (T := tbl) (B := bodies) (pr := [99999, 2, 6]) (DR := dr33) (args := [.v q.val, .v (.int .i64 ((k : Nat) : Int))]) tbl_ok bodies_ok mixed Tryz.func33 rfl (by decide +kernel) (by simp [Tryz.f33]) rfl ?_
  (conv => whnf)
  refine ⟨p, hp, by omega, by omega, ?_⟩
  (conv => whnf)
  refine ⟨_, hc 0 _ rfl, ?_⟩
  (conv => whnf)
  refine ⟨_, hc 1 _ rfl, ?_⟩
  (conv => whnf)
  refine ⟨_, hc 2 _ rfl, ?_⟩
  (conv => whnf)
  refine ⟨_, hc 3 _ rfl, ?_⟩
  (conv => whnf)
  refine ⟨_, hc 4 _ rfl, ?_⟩
  (conv => whnf)
  refine ⟨_, hc 5 _ rfl, ?_⟩
  (conv => whnf)
  refine ⟨_, hc 6 _ rfl, ?_⟩
  (conv => whnf)
  refine ⟨_, hc 7 _ rfl, ?_⟩
  (conv => whnf)
  refine ⟨_, hc 8 _ rfl, ?_⟩
  (conv => whnf)
  refine ⟨_, hc 9 _ rfl, ?_⟩
  (conv => whnf)
  intro b5 m2 hb he
  have h := (Sep.init m).new' (l := (tbl.at 56).zero.list) hb he
  clear hb he
  (conv => whnf)
  refine ⟨h.rooms 0 (i := 0) rfl (by decide), fun m3 he => ?_⟩
  replace h := he ▸ h.putAll 0 (i := 0) (Ins.cells ⟨11, x, y, n, mn, mx, s0, s1, s2, s3⟩) rfl
  clear he
  have k0 := h.cell 0 (i := 0) rfl rfl
  have k1 := h.cell 0 (i := 1) rfl rfl
  have k2 := h.cell 0 (i := 2) rfl rfl
  have k3 := h.cell 0 (i := 3) rfl rfl
  have k4 := h.cell 0 (i := 4) rfl rfl
  have k5 := h.cell 0 (i := 5) rfl rfl
  have ka : ∀ j, j < 4 → m3.cell (((⟨b5, 0, none⟩ : Addr).add 6).add j) = some (.int .u64 ([s0, s1, s2, s3].getD j 0)) := fun j hj => by
    have : j = 0 ∨ j = 1 ∨ j = 2 ∨ j = 3 := by omega
    rcases this with rfl | rfl | rfl | rfl
    · exact h.cell 0 (i := 6) rfl rfl
    · exact h.cell 0 (i := 7) rfl rfl
    · exact h.cell 0 (i := 8) rfl rfl
    · exact h.cell 0 (i := 9) rfl rfl
  have hk := h.kept 1 rfl
  clear h
  (conv => whnf)
  refine ⟨_, k0, ?_⟩
  (conv => whnf)
  refine FCalls.mono (rof1 (u := ⟨false, false, false, false, false, false⟩) rfl (d := false) rfl) ?_
  rintro v m' ⟨rfl, rfl⟩
  have hF : fineF q k = ((false || decide (s0 = 0 ∧ s1 = 0 ∧ s2 = 0 ∧ s3 = 0)) && withinF false x q.ins.length && withinF false y q.ins.length && withinF false n q.groups && boundsF ⟨11, x, y, n, mn, mx, s0, s1, s2, s3⟩ && (!false || decide (k + 1 < q.ins.length))) := by
    unfold fineF
    rw [hi]
    rfl
  clear hc hp
  have hw : IntKind.i64.wrap (((q.ins.length : Nat) : Int) - 1) = ((q.ins.length : Nat) : Int) - 1 := wrap_id (by omega) (by omega)
  (conv => whnf)
  repeat' (first
    | (refine brk_true ?h ?_; (case h => first | rfl | (simp <;> omega)); (conv => whnf))
    | (refine brk_false ?h ?_; (case h => first | rfl | (simp <;> omega)); (conv => whnf))
    | (refine brk_intro (fun c => ?_) (fun c => ?_) <;> (simp at c) <;> (conv => whnf))
    | (refine ⟨_, k0, ?_⟩; (conv => whnf))
    | (refine ⟨_, k1, ?_⟩; (conv => whnf))
    | (refine ⟨_, k2, ?_⟩; (conv => whnf))
    | (refine ⟨_, k3, ?_⟩; (conv => whnf))
    | (refine ⟨_, k4, ?_⟩; (conv => whnf))
    | (refine ⟨_, k5, ?_⟩; (conv => whnf))
    | (show ∃ xs : List Int, _; refine ⟨[s0, s1, s2, s3], rfl, ka, ?_⟩; (conv => whnf); refine ⟨rfl, rfl, ?_⟩; (conv => whnf)))
  all_goals
    refine ⟨m, hk, ?_, rfl⟩
    change Value.bool _ = Value.bool _
    refine congrArg Value.bool ?_
    rw [hF]
    clear hF
  all_goals first
    | (simp_all [withinF, boundsF]; done)
    | (simp_all [withinF, boundsF]; omega)
    | (simp [withinF, boundsF]; omega)
theorem rfine_0 {m : Mem} {q : Prg} {k : Nat} {op x y n mn mx s0 s1 s2 s3 : Int} (hq : q.at m) (hi : q.ins[k]? = some ⟨op, x, y, n, mn, mx, s0, s1, s2, s3⟩) (hn : q.ins.length ≤ 1048576) (hu : usesOf op = none) :
    FCalls Tryz.prog 33 [q.val, .int .i64 ((k : Nat) : Int)] m fun v m' => v = .bool (fineF q k) ∧ m' = m := by
  obtain ⟨p, hp, hc⟩ := ins_at hq hi
  have hlt := (List.getElem?_eq_some_iff.1 hi).1
  refine FCalls.less ?_
  refine fcalls_of_vc (T := tbl) (B := bodies) (pr := [99999, 2, 6]) (DR := dr33) (args := [.v q.val, .v (.int .i64 ((k : Nat) : Int))]) tbl_ok bodies_ok mixed Tryz.func33 rfl (by decide +kernel) (by simp [Tryz.f33]) rfl ?_
  (conv => whnf)
  refine ⟨p, hp, by omega, by omega, ?_⟩
  (conv => whnf)
  refine ⟨_, hc 0 _ rfl, ?_⟩
  (conv => whnf)
  refine ⟨_, hc 1 _ rfl, ?_⟩
  (conv => whnf)
  refine ⟨_, hc 2 _ rfl, ?_⟩
  (conv => whnf)
  refine ⟨_, hc 3 _ rfl, ?_⟩
  (conv => whnf)
  refine ⟨_, hc 4 _ rfl, ?_⟩
  (conv => whnf)
  refine ⟨_, hc 5 _ rfl, ?_⟩
  (conv => whnf)
  refine ⟨_, hc 6 _ rfl, ?_⟩
  (conv => whnf)
  refine ⟨_, hc 7 _ rfl, ?_⟩
  (conv => whnf)
  refine ⟨_, hc 8 _ rfl, ?_⟩
  (conv => whnf)
  refine ⟨_, hc 9 _ rfl, ?_⟩
  (conv => whnf)
  intro b5 m2 hb he
  have h := (Sep.init m).new' (l := (tbl.at 56).zero.list) hb he
  clear hb he
  (conv => whnf)
  refine ⟨h.rooms 0 (i := 0) rfl (by decide), fun m3 he => ?_⟩
  replace h := he ▸ h.putAll 0 (i := 0) (Ins.cells ⟨op, x, y, n, mn, mx, s0, s1, s2, s3⟩) rfl
  clear he
  have k0 := h.cell 0 (i := 0) rfl rfl
  have k1 := h.cell 0 (i := 1) rfl rfl
  have k2 := h.cell 0 (i := 2) rfl rfl
  have k3 := h.cell 0 (i := 3) rfl rfl
  have k4 := h.cell 0 (i := 4) rfl rfl
  have k5 := h.cell 0 (i := 5) rfl rfl
  have ka : ∀ j, j < 4 → m3.cell (((⟨b5, 0, none⟩ : Addr).add 6).add j) = some (.int .u64 ([s0, s1, s2, s3].getD j 0)) := fun j hj => by
    have : j = 0 ∨ j = 1 ∨ j = 2 ∨ j = 3 := by omega
    rcases this with rfl | rfl | rfl | rfl
    · exact h.cell 0 (i := 6) rfl rfl
    · exact h.cell 0 (i := 7) rfl rfl
    · exact h.cell 0 (i := 8) rfl rfl
    · exact h.cell 0 (i := 9) rfl rfl
  have hk := h.kept 1 rfl
  clear h
  (conv => whnf)
  refine ⟨_, k0, ?_⟩
  (conv => whnf)
  refine FCalls.mono (rof0 hu) ?_
  rintro v m' ⟨⟨d, rfl⟩, rfl⟩
  have hF : fineF q k = false := by
    unfold fineF
    rw [hi]
    show (match usesOf op with | none => false | some u => _) = false
    rw [hu]
  (conv => whnf)
  exact ⟨m, hk, by rw [hF]; rfl, rfl⟩
theorem rfine_c {m : Mem} {q : Prg} {k : Nat} {i : Ins} (hq : q.at m) (hi : q.ins[k]? = some i) (hn : q.ins.length ≤ 1048576) :
    FCalls Tryz.prog 33 [q.val, .int .i64 ((k : Nat) : Int)] m fun v m' => v = .bool (fineF q k) ∧ m' = m := by
  obtain ⟨op, x, y, n, mn, mx, s0, s1, s2, s3⟩ := i
  rcases usesOf_ways op with rfl | rfl | rfl | rfl | rfl | rfl | rfl | rfl | rfl | rfl | rfl | hu
  · exact rfine_1 hq hi hn
  · exact rfine_2 hq hi hn
  · exact rfine_3 hq hi hn
  · exact rfine_4 hq hi hn
  · exact rfine_5 hq hi hn
  · exact rfine_6 hq hi hn
  · exact rfine_7 hq hi hn
  · exact rfine_8 hq hi hn
  · exact rfine_9 hq hi hn
  · exact rfine_10 hq hi hn
  · exact rfine_11 hq hi hn
  · exact rfine_0 hq hi hn hu
end Go.Proofs.YtfjbgmeimipibaaGreatDoor
/- Code: Free of any program; the document's Right, Free. -/
namespace Go.Proofs.YtfjbgmeimipibaaGreatDoor
open Go Go.Mv
set_option maxHeartbeats 2000000
set_option maxRecDepth 10000
set_option linter.unusedVariables false
set_option linter.unusedSimpArgs false
attribute [local irreducible] FCalls IntKind.wrap bits Mem.set Mem.setCell Mem.setCells YCalls RunP NextP RunU
theorem free_a {m : Mem} {q : Prg} (hq : q.at m) (hn : q.ins.length ≤ 9223372036854775806) : FCalls Tryz.prog 22 [q.val] m fun v m' => v = .bool (freeF q) ∧ m' = m := by
  refine FCalls.less ?_
  refine fcalls_of_vc (T := tbl) (B := bodies) (pr := [99999, 1]) (DR := dr22) (args := [.v q.val]) tbl_ok bodies_ok mixed Tryz.func22 rfl (by decide +kernel) (by simp [Tryz.f22]) rfl ?_
  (conv => whnf)
  refine loop_keep [0, 6, 7] (Nat × Mem) (fun s => [(8, .v (.int .i64 ((s.1 : Nat) : Int)))]) (fun _ => [.cells q.cells]) (fun s => s.2) (fun s => s.1 ≤ q.ins.length ∧ m.le s.2 ∧ ∀ (j : Nat) i, j < s.1 → q.ins[j]? = some i → freeI i = true) (fun s => q.ins.length - s.1) (0, m) ⟨rfl, trivial⟩ rfl rfl ⟨Nat.zero_le _, Mem.le_refl _, fun j i h => (by omega)⟩ ?_
  (conv => whnf)
  refine ⟨rfl, ?_⟩
  rintro ⟨k, M⟩ ⟨hk, hM, hJ⟩
  simp only at hk hM hJ
  (conv => whnf)
  refine brk_intro (fun c7 => ?_) (fun c7 => ?_)
  · have c7 : (k : Int) < q.ins.length := by simpa using c7
    have step1 : IntKind.i64.wrap ((k : Int) + 1) = ((k + 1 : Nat) : Int) := wrap_id (by omega) (by omega)
    obtain ⟨i, hi⟩ : ∃ i, q.ins[k]? = some i := ⟨_, List.getElem?_eq_getElem (by omega)⟩
    obtain ⟨p, hp, hc⟩ := ins_at (hq.more hM) hi
    (conv => whnf)
    refine ⟨p, hp, by omega, by omega, ?_⟩
    (conv => whnf)
    refine ⟨_, hc 0 _ rfl, ?_⟩
    (conv => whnf)
    refine ⟨_, hc 1 _ rfl, ?_⟩
    (conv => whnf)
    refine ⟨_, hc 2 _ rfl, ?_⟩
    (conv => whnf)
    refine ⟨_, hc 3 _ rfl, ?_⟩
    (conv => whnf)
    refine ⟨_, hc 4 _ rfl, ?_⟩
    (conv => whnf)
    refine ⟨_, hc 5 _ rfl, ?_⟩
    (conv => whnf)
    refine ⟨_, hc 6 _ rfl, ?_⟩
    (conv => whnf)
    refine ⟨_, hc 7 _ rfl, ?_⟩
    (conv => whnf)
    refine ⟨_, hc 8 _ rfl, ?_⟩
    (conv => whnf)
    refine ⟨_, hc 9 _ rfl, ?_⟩
    (conv => whnf)
    intro b5 m2 hb he
    have h := (Sep.init M).new' (l := (tbl.at 56).zero.list) hb he
    clear hb he
    (conv => whnf)
    refine ⟨h.rooms 0 (i := 0) rfl (by decide), fun m3 he => ?_⟩
    replace h : Sep [pt b5 i.cells, kp M] m3 := he ▸ h.putAll 0 (i := 0) i.cells rfl
    clear he
    have k0 := h.cell 0 (i := 0) rfl rfl
    have hM3 : m.le m3 := Mem.le_trans hM (h.kept 1 rfl)
    (conv => whnf)
    refine ⟨_, k0, ?_⟩
    (conv => whnf)
    have hno : i.op = 8 ∨ i.op = 9 ∨ i.op = 10 → freeF q = false := fun h => by
      cases hf : freeF q with
      | false => rfl
      | true =>
        unfold freeF at hf
        rw [List.all_eq_true] at hf
        have := hf i (List.mem_of_getElem? hi)
        unfold freeI at this
        rw [decide_eq_true h] at this
        cases this
    obtain ⟨f, hf⟩ : ∃ f, f = freeF q := ⟨_, rfl⟩
    rw [← hf] at hno ⊢
    clear hf
    refine brk_intro (fun c8 => ?_) (fun c8 => ?_)
    · rw [hno (by have : i.op = 8 := by simpa using c8
                  omega)]
      (conv => whnf)
      refine brk_true (by simpa using c8) ?_
      (conv => whnf)
      exact ⟨m, hM3, rfl, rfl⟩
    · (conv => whnf)
      refine brk_intro (fun c9 => ?_) (fun c9 => ?_)
      · rw [hno (by have : i.op = 9 := by simpa using c9
                    omega)]
        (conv => whnf)
        refine brk_true (by simpa using c9) ?_
        (conv => whnf)
        exact ⟨m, hM3, rfl, rfl⟩
      · (conv => whnf)
        refine brk_intro (fun c10 => ?_) (fun c10 => ?_)
        · rw [hno (by have : i.op = 10 := by simpa using c10
                      omega)]
          (conv => whnf)
          exact ⟨m, hM3, rfl, rfl⟩
        · have c8 : ¬ i.op = 8 := by simpa using c8
          have c9 : ¬ i.op = 9 := by simpa using c9
          have c10 : ¬ i.op = 10 := by simpa using c10
          (conv => whnf)
          refine ⟨(k + 1, m3), le_eq ⟨by show some (AV.v (.int .i64 (IntKind.i64.wrap ((k : Int) + 1)))) = _; rw [step1], rfl, rfl, rfl, trivial⟩ rfl rfl rfl, ⟨by simp only; omega, hM3, fun j i' hj hi' => ?_⟩, by simp only; omega⟩
          simp only at hj
          rcases Nat.lt_or_ge j k with h | h
          · exact hJ j i' h hi'
          · have : j = k := by omega
            rw [this, hi] at hi'
            cases hi'
            unfold freeI
            rw [decide_eq_false (by omega)]
            rfl
  · have c7 : ¬ (k : Int) < q.ins.length := by simpa using c7
    have hf : freeF q = true := all_take fun j i hi => hJ j i (by have := (List.getElem?_eq_some_iff.1 hi).1; omega) hi
    rw [hf]
    (conv => whnf)
    exact ⟨m, hM, rfl, rfl⟩
theorem rright_c {m : Mem} {q : Prg} (hq : q.at m) : FCalls Tryz.prog 14 [q.val] m fun v m' => v = .tuple #[.int .i64 (rightF q).1, .int .i64 (rightF q).2] ∧ m' = m := by
  refine fcalls_of_vc (T := tbl) (B := bodies) (pr := [1]) (DR := dr14) (args := [.v q.val]) tbl_ok bodies_ok mixed Tryz.func14 rfl (by decide +kernel) (by simp [Tryz.f14]) rfl ?_
  (conv => whnf)
  refine brk_intro (fun c1 => ?_) (fun c1 => ?_)
  · have c1 : (40000 : Int) < q.ins.length := by simpa using c1
    (conv => whnf)
    refine ⟨?_, rfl⟩
    unfold rightF
    rw [if_pos (by omega)]
    rfl
  have c1 : ¬ (40000 : Int) < q.ins.length := by simpa using c1
  obtain ⟨rf, hrf⟩ : ∃ rf, rf = rightF q := ⟨_, rfl⟩
  rw [← hrf]
  have hbad : q.groups < 0 ∨ 30 < q.groups ∨ q.counters < 0 ∨ 40 < q.counters → rf = (1, 0) := fun h => by
    rw [hrf]
    unfold rightF
    rw [if_neg (by omega), if_pos h]
  have hgood : ¬ (q.groups < 0 ∨ 30 < q.groups ∨ q.counters < 0 ∨ 40 < q.counters) → (q.ins.length = 0 → rf = (60, 0)) ∧ (∀ k, 0 < q.ins.length → wrongF q = some k → rf = (60, (k : Int))) ∧ (0 < q.ins.length → wrongF q = none → rf = (0, 0)) := fun h => by
    rw [hrf]
    unfold rightF
    rw [if_neg (by omega), if_neg h]
    refine ⟨fun h0 => by rw [if_pos h0], fun k h0 h1 => by rw [if_neg (by omega), h1], fun h0 h1 => by rw [if_neg (by omega), h1]⟩
  clear hrf
  (conv => whnf)
  refine brk_intro (fun c2 => ?_) (fun c2 => ?_)
  rotate_left
  · have c2 : q.groups < 0 := by simpa using c2
    rw [hbad (by omega)]
    (conv => whnf)
    exact ⟨rfl, rfl⟩
  have c2 : ¬ q.groups < 0 := by simpa using c2
  (conv => whnf)
  refine brk_intro (fun c3 => ?_) (fun c3 => ?_)
  rotate_left
  · have c3 : 30 < q.groups := by simpa using c3
    rw [hbad (by omega)]
    (conv => whnf)
    exact ⟨rfl, rfl⟩
  have c3 : ¬ 30 < q.groups := by simpa using c3
  (conv => whnf)
  refine brk_intro (fun c4 => ?_) (fun c4 => ?_)
  rotate_left
  · have c4 : q.counters < 0 := by simpa using c4
    rw [hbad (by omega)]
    (conv => whnf)
    exact ⟨rfl, rfl⟩
  have c4 : ¬ q.counters < 0 := by simpa using c4
  (conv => whnf)
  refine brk_intro (fun c5 => ?_) (fun c5 => ?_)
  · have c5 : 40 < q.counters := by simpa using c5
    rw [hbad (by omega)]
    (conv => whnf)
    exact ⟨rfl, rfl⟩
  have c5 : ¬ 40 < q.counters := by simpa using c5
  obtain ⟨g1, g2, g3⟩ := hgood (by omega)
  clear hbad hgood
  (conv => whnf)
  refine loop_keep [1] Nat (fun s => [(4, .v (.int .i64 ((s : Nat) : Int)))]) (fun _ => [.cells q.cells]) (fun _ => m) (fun s => s ≤ q.ins.length ∧ ∀ j, j < s → fineF q j = true) (fun s => q.ins.length - s) 0 ⟨rfl, trivial⟩ rfl rfl ⟨Nat.zero_le _, fun j h => by omega⟩ ?_
  (conv => whnf)
  refine ⟨rfl, ?_⟩
  rintro k ⟨hk, hJ⟩
  (conv => whnf)
  refine brk_intro (fun c7 => ?_) (fun c7 => ?_)
  · have c7 : ((k : Nat) : Int) < ((q.ins.length : Nat) : Int) := of_decide_eq_true c7
    have step1 : IntKind.i64.wrap ((k : Int) + 1) = ((k + 1 : Nat) : Int) := wrap_id (by omega) (by omega)
    obtain ⟨i, hi⟩ : ∃ i, q.ins[k]? = some i := ⟨_, List.getElem?_eq_getElem (by omega)⟩
    (conv => whnf)
    refine FCalls.mono (rfine_c hq hi (by omega)) ?_
    rintro v m' ⟨rfl, rfl⟩
    obtain ⟨b, hb⟩ : ∃ b, b = fineF q k := ⟨_, rfl⟩
    rw [← hb]
    (conv => whnf)
    refine brk_intro (fun c8 => ?_) (fun c8 => ?_)
    · have c8 : b = false := by simpa using c8
      rw [g2 k (by omega) (wrong_some hJ (by omega) (by rw [← hb]; exact c8))]
      (conv => whnf)
      exact ⟨rfl, rfl⟩
    · have c8 : b = true := by simpa using c8
      (conv => whnf)
      refine ⟨k + 1, le_eq ⟨by show some (AV.v (.int .i64 (IntKind.i64.wrap ((k : Int) + 1)))) = _; rw [step1], rfl, trivial⟩ rfl rfl rfl, ⟨by omega, fun j hj => ?_⟩, by omega⟩
      rcases Nat.lt_or_ge j k with h | h
      · exact hJ j h
      · have : j = k := by omega
        rw [this, ← hb, c8]
  · have c7 : ¬ ((k : Nat) : Int) < ((q.ins.length : Nat) : Int) := of_decide_eq_false c7
    (conv => whnf)
    refine brk_intro (fun c6 => ?_) (fun c6 => ?_)
    · have c6 : q.ins.length = 0 := by
        have : ((q.ins.length : Nat) : Int) = 0 := by simpa using c6
        omega
      rw [g1 c6]
      (conv => whnf)
      exact ⟨rfl, rfl⟩
    · have c6 : 0 < q.ins.length := by
        have : ¬ ((q.ins.length : Nat) : Int) = 0 := by simpa using c6
        omega
      rw [g3 c6 (wrong_none fun j hj => hJ j (by omega))]
      (conv => whnf)
      exact ⟨rfl, rfl⟩
theorem rfree_a {m : Mem} {q : Prg} (hq : q.at m) (hn : q.ins.length ≤ 9223372036854775806) : FCalls Tryz.prog 21 [q.val] m fun v m' => v = .bool (freeF q) ∧ m' = m := by
  refine fcalls_of_vc (T := tbl) (B := bodies) (pr := [1]) (DR := dr21) (args := [.v q.val]) tbl_ok bodies_ok mixed Tryz.func21 rfl (by decide +kernel) (by simp [Tryz.f21]) rfl ?_
  (conv => whnf)
  refine loop_keep [1] Nat (fun s => [(3, .v (.int .i64 ((s : Nat) : Int)))]) (fun _ => [.cells q.cells]) (fun s => m) (fun s => s ≤ q.ins.length ∧ ∀ (j : Nat) i, j < s → q.ins[j]? = some i → freeI i = true) (fun s => q.ins.length - s) 0 ⟨rfl, trivial⟩ rfl rfl ⟨Nat.zero_le _, fun j i h => (by omega)⟩ ?_
  (conv => whnf)
  refine ⟨rfl, ?_⟩
  rintro k ⟨hk, hJ⟩
  (conv => whnf)
  refine brk_intro (fun c7 => ?_) (fun c7 => ?_)
  · have c7 : ((k : Nat) : Int) < ((q.ins.length : Nat) : Int) := of_decide_eq_true c7
    have step1 : IntKind.i64.wrap ((k : Int) + 1) = ((k + 1 : Nat) : Int) := wrap_id (by omega) (by omega)
    obtain ⟨i, hi⟩ : ∃ i, q.ins[k]? = some i := ⟨_, List.getElem?_eq_getElem (by omega)⟩
    obtain ⟨p, hp, hc⟩ := ins_at hq hi
    have hno : freeI i = false → freeF q = false := fun h => by
      cases hf : freeF q with
      | false => rfl
      | true =>
        unfold freeF at hf
        rw [List.all_eq_true] at hf
        rw [hf i (List.mem_of_getElem? hi)] at h
        cases h
    have hI : freeI i = !(i.op == 8 || i.op == 9 || i.op == 10) := by
      unfold freeI
      by_cases h8 : i.op = 8
      · simp [h8]
      · by_cases h9 : i.op = 9
        · simp [h9]
        · by_cases h10 : i.op = 10 <;> simp [h8, h9, h10]
    (conv => whnf)
    refine ⟨p, hp, by omega, by omega, ?_⟩
    (conv => whnf)
    refine ⟨_, hc 0 _ rfl, ?_⟩
    (conv => whnf)
    obtain ⟨f, hf⟩ : ∃ f, f = freeF q := ⟨_, rfl⟩
    rw [← hf] at hno ⊢
    clear hf
    have bad : freeI i = false → Value.bool false = .bool f := fun h => by rw [hno h]
    have good : freeI i = true → ∀ (j : Nat) i', j < k + 1 → q.ins[j]? = some i' → freeI i' = true := fun h j i' hj hi' => by
      rcases Nat.lt_or_ge j k with hlt | hge
      · exact hJ j i' hlt hi'
      · have : j = k := by omega
        rw [this, hi] at hi'
        cases hi'
        exact h
    rcases Decidable.em (i.op = 8) with c8 | c8
    · refine brk_false (by simp [c8]) ?_
      (conv => whnf)
      exact ⟨bad (by rw [hI, c8]; rfl), rfl⟩
    refine brk_true (by simp [c8]) ?_
    (conv => whnf)
    rcases Decidable.em (i.op = 9) with c9 | c9
    · refine brk_false (by simp [c9]) ?_
      (conv => whnf)
      exact ⟨bad (by rw [hI, c9]; rfl), rfl⟩
    refine brk_true (by simp [c8, c9]) ?_
    (conv => whnf)
    rcases Decidable.em (i.op = 10) with c10 | c10
    · refine brk_true (by simp [c10]) ?_
      (conv => whnf)
      exact ⟨bad (by rw [hI, c10]; rfl), rfl⟩
    · refine brk_false (by simp [c8, c9, c10]) ?_
      (conv => whnf)
      exact ⟨k + 1, le_eq ⟨by show some (AV.v (.int .i64 (IntKind.i64.wrap ((k : Int) + 1)))) = _; rw [step1], rfl, trivial⟩ rfl rfl rfl, ⟨by omega, good (by rw [hI]; simp [c8, c9, c10])⟩, by omega⟩
  · have c7 : ¬ ((k : Nat) : Int) < ((q.ins.length : Nat) : Int) := of_decide_eq_false c7
    have hf : freeF q = true := all_take fun j i hi => hJ j i (by have := (List.getElem?_eq_some_iff.1 hi).1; omega) hi
    rw [hf]
    (conv => whnf)
    exact ⟨rfl, rfl⟩
end Go.Proofs.YtfjbgmeimipibaaGreatDoor
/- Code: the shelf's contracts, laid at this program. -/
namespace Go.Proofs
open Go.Shelf
def Tryz.lays146_ren : Go.Shelf.Ren := ⟨fun | 146 => 65 | 221 => 77 | 268 => 90 | 138 => 91 | 143 => 92 | 195 => 111 | 197 => 112 | 218 => 113 | 219 => 76 | 260 => 126 | 217 => 86 | 225 => 87 | 224 => 88 | 267 => 89 | 266 => 109 | 314 => 110 | n => n, fun | 9 => 9 | 31 => 104 | 3 => 3 | 4 => 4 | 0 => 0 | 105 => 157 | 21 => 21 | 5 => 5 | 46 => 131 | 119 => 176 | 139 => 179 | 138 => 178 | 146 => 155 | 51 => 150 | n => n, fun | 1 => 0 | 3 => 6 | 4 => 7 | n => n⟩
theorem Tryz.lays146 : Go.Proofs.Lays.n146 Tryz.prog Tryz.lays146_ren := {
  mixed := by kernel_rfl
  f138 := Tryz.func91.trans (congrArg some (by kernel_rfl))
  f143 := Tryz.func92.trans (congrArg some (by kernel_rfl))
  f146 := Tryz.func65.trans (congrArg some (by kernel_rfl))
  f195 := Tryz.func111.trans (congrArg some (by kernel_rfl))
  f197 := Tryz.func112.trans (congrArg some (by kernel_rfl))
  f217 := Tryz.func86.trans (congrArg some (by kernel_rfl))
  f218 := Tryz.func113.trans (congrArg some (by kernel_rfl))
  f219 := Tryz.func76.trans (congrArg some (by kernel_rfl))
  f221 := Tryz.func77.trans (congrArg some (by kernel_rfl))
  f224 := Tryz.func88.trans (congrArg some (by kernel_rfl))
  f225 := Tryz.func87.trans (congrArg some (by kernel_rfl))
  f260 := Tryz.func126.trans (congrArg some (by kernel_rfl))
  f266 := Tryz.func109.trans (congrArg some (by kernel_rfl))
  f267 := Tryz.func89.trans (congrArg some (by kernel_rfl))
  f268 := Tryz.func90.trans (congrArg some (by kernel_rfl))
  f314 := Tryz.func110.trans (congrArg some (by kernel_rfl))
  t0 := Tryz.underlying0
  a0 := Tryz.isAgg0
  z0 := Tryz.sizeOf0
  v0 := Tryz.zeroValue0
  t3 := Tryz.underlying3
  a3 := Tryz.isAgg3
  z3 := Tryz.sizeOf3
  v3 := Tryz.zeroValue3
  t4 := Tryz.underlying4
  a4 := Tryz.isAgg4
  z4 := Tryz.sizeOf4
  v4 := Tryz.zeroValue4
  t5 := Tryz.underlying5
  a5 := Tryz.isAgg5
  z5 := Tryz.sizeOf5
  v5 := Tryz.zeroValue5
  t9 := Tryz.underlying9
  a9 := Tryz.isAgg9
  z9 := Tryz.sizeOf9
  v9 := Tryz.zeroValue9
  t21 := Tryz.underlying21
  a21 := Tryz.isAgg21
  z21 := Tryz.sizeOf21
  v21 := Tryz.zeroValue21
  t31 := Tryz.underlying104
  a31 := Tryz.isAgg104
  z31 := Tryz.sizeOf104
  v31 := Tryz.zeroValue104
  t46 := Tryz.underlying131
  a46 := Tryz.isAgg131
  z46 := Tryz.sizeOf131
  v46 := Tryz.zeroValue131
  t51 := Tryz.underlying150
  a51 := Tryz.isAgg150
  z51 := Tryz.sizeOf150
  v51 := Tryz.zeroValue150
  t105 := Tryz.underlying157
  a105 := Tryz.isAgg157
  z105 := Tryz.sizeOf157
  v105 := Tryz.zeroValue157
  t119 := Tryz.underlying176
  a119 := Tryz.isAgg176
  z119 := Tryz.sizeOf176
  t138 := Tryz.underlying178
  a138 := Tryz.isAgg178
  z138 := Tryz.sizeOf178
  v138 := Tryz.zeroValue178
  t139 := Tryz.underlying179
  a139 := Tryz.isAgg179
  z139 := Tryz.sizeOf179
  v139 := Tryz.zeroValue179
  t146 := Tryz.underlying155
  a146 := Tryz.isAgg155
  z146 := Tryz.sizeOf155
  v146 := Tryz.zeroValue155
  g1 := by kernel_rfl
  g3 := by kernel_rfl
  g4 := by kernel_rfl }
def Tryz.lays145_ren : Go.Shelf.Ren := ⟨fun | 145 => 46 | 220 => 64 | 219 => 76 | 217 => 86 | 225 => 87 | 224 => 88 | 267 => 89 | 266 => 109 | 314 => 110 | n => n, fun | 9 => 9 | 4 => 4 | 59 => 97 | 3 => 3 | 5 => 5 | 46 => 131 | 146 => 155 | 51 => 150 | n => n, fun | 1 => 0 | n => n⟩
theorem Tryz.lays145 : Go.Proofs.Lays.n145 Tryz.prog Tryz.lays145_ren := {
  mixed := by kernel_rfl
  f145 := Tryz.func46.trans (congrArg some (by kernel_rfl))
  f217 := Tryz.func86.trans (congrArg some (by kernel_rfl))
  f219 := Tryz.func76.trans (congrArg some (by kernel_rfl))
  f220 := Tryz.func64.trans (congrArg some (by kernel_rfl))
  f224 := Tryz.func88.trans (congrArg some (by kernel_rfl))
  f225 := Tryz.func87.trans (congrArg some (by kernel_rfl))
  f266 := Tryz.func109.trans (congrArg some (by kernel_rfl))
  f267 := Tryz.func89.trans (congrArg some (by kernel_rfl))
  f314 := Tryz.func110.trans (congrArg some (by kernel_rfl))
  t3 := Tryz.underlying3
  a3 := Tryz.isAgg3
  z3 := Tryz.sizeOf3
  v3 := Tryz.zeroValue3
  t4 := Tryz.underlying4
  a4 := Tryz.isAgg4
  z4 := Tryz.sizeOf4
  v4 := Tryz.zeroValue4
  t5 := Tryz.underlying5
  a5 := Tryz.isAgg5
  z5 := Tryz.sizeOf5
  v5 := Tryz.zeroValue5
  t9 := Tryz.underlying9
  a9 := Tryz.isAgg9
  z9 := Tryz.sizeOf9
  v9 := Tryz.zeroValue9
  t46 := Tryz.underlying131
  a46 := Tryz.isAgg131
  z46 := Tryz.sizeOf131
  v46 := Tryz.zeroValue131
  t51 := Tryz.underlying150
  a51 := Tryz.isAgg150
  z51 := Tryz.sizeOf150
  v51 := Tryz.zeroValue150
  t59 := Tryz.underlying97
  a59 := Tryz.isAgg97
  z59 := Tryz.sizeOf97
  v59 := Tryz.zeroValue97
  t146 := Tryz.underlying155
  a146 := Tryz.isAgg155
  z146 := Tryz.sizeOf155
  v146 := Tryz.zeroValue155
  g1 := by kernel_rfl }
def Tryz.lays156_ren : Go.Shelf.Ren := ⟨fun | 156 => 60 | 165 => 75 | 166 => 38 | 169 => 41 | 240 => 55 | 241 => 85 | 276 => 71 | 277 => 108 | n => n, fun | 31 => 104 | 9 => 9 | 3 => 3 | 4 => 4 | 0 => 0 | 20 => 20 | 72 => 82 | 76 => 83 | 70 => 80 | 37 => 73 | 75 => 48 | 127 => 110 | 164 => 120 | 5 => 5 | 80 => 85 | n => n, fun | n => n⟩
theorem Tryz.lays156 : Go.Proofs.Lays.n156 Tryz.prog Tryz.lays156_ren := {
  mixed := by kernel_rfl
  f156 := Tryz.func60.trans (congrArg some (by kernel_rfl))
  f165 := Tryz.func75.trans (congrArg some (by kernel_rfl))
  f166 := Tryz.func38.trans (congrArg some (by kernel_rfl))
  f169 := Tryz.func41.trans (congrArg some (by kernel_rfl))
  f240 := Tryz.func55.trans (congrArg some (by kernel_rfl))
  f241 := Tryz.func85.trans (congrArg some (by kernel_rfl))
  f276 := Tryz.func71.trans (congrArg some (by kernel_rfl))
  f277 := Tryz.func108.trans (congrArg some (by kernel_rfl))
  t0 := Tryz.underlying0
  a0 := Tryz.isAgg0
  z0 := Tryz.sizeOf0
  v0 := Tryz.zeroValue0
  t3 := Tryz.underlying3
  a3 := Tryz.isAgg3
  z3 := Tryz.sizeOf3
  v3 := Tryz.zeroValue3
  t4 := Tryz.underlying4
  a4 := Tryz.isAgg4
  z4 := Tryz.sizeOf4
  v4 := Tryz.zeroValue4
  t9 := Tryz.underlying9
  a9 := Tryz.isAgg9
  z9 := Tryz.sizeOf9
  v9 := Tryz.zeroValue9
  t20 := Tryz.underlying20
  a20 := Tryz.isAgg20
  z20 := Tryz.sizeOf20
  v20 := Tryz.zeroValue20
  t31 := Tryz.underlying104
  a31 := Tryz.isAgg104
  z31 := Tryz.sizeOf104
  v31 := Tryz.zeroValue104
  t37 := Tryz.underlying73
  a37 := Tryz.isAgg73
  z37 := Tryz.sizeOf73
  v37 := Tryz.zeroValue73
  t70 := Tryz.underlying80
  a70 := Tryz.isAgg80
  z70 := Tryz.sizeOf80
  v70 := Tryz.zeroValue80
  t72 := Tryz.underlying82
  a72 := Tryz.isAgg82
  z72 := Tryz.sizeOf82
  v72 := Tryz.zeroValue82
  t75 := Tryz.underlying48
  a75 := Tryz.isAgg48
  z75 := Tryz.sizeOf48
  v75 := Tryz.zeroValue48
  t76 := Tryz.underlying83
  a76 := Tryz.isAgg83
  z76 := Tryz.sizeOf83
  v76 := Tryz.zeroValue83
  t127 := Tryz.underlying110
  a127 := Tryz.isAgg110
  z127 := Tryz.sizeOf110
  v127 := Tryz.zeroValue110
  t164 := Tryz.underlying120
  a164 := Tryz.isAgg120
  z164 := Tryz.sizeOf120
  v164 := Tryz.zeroValue120 }
def Tryz.lays160_ren : Go.Shelf.Ren := ⟨fun | 160 => 78 | 232 => 94 | 231 => 93 | 227 => 95 | 234 => 97 | 233 => 96 | 236 => 99 | 235 => 98 | 228 => 114 | 271 => 116 | 151 => 115 | 197 => 112 | 120 => 128 | 152 => 127 | 260 => 126 | 137 => 131 | 119 => 132 | 224 => 88 | 225 => 87 | 217 => 86 | 266 => 109 | n => n, fun | 9 => 9 | 4 => 4 | 3 => 3 | 5 => 5 | 117 => 143 | 116 => 142 | 0 => 0 | 124 => 146 | 21 => 21 | 105 => 157 | 46 => 131 | 119 => 176 | 139 => 179 | 138 => 178 | n => n, fun | 3 => 6 | 4 => 7 | n => n⟩
theorem Tryz.lays160 : Go.Proofs.Lays.n160 Tryz.prog Tryz.lays160_ren := {
  mixed := by kernel_rfl
  f119 := Tryz.func132.trans (congrArg some (by kernel_rfl))
  f120 := Tryz.func128.trans (congrArg some (by kernel_rfl))
  f137 := Tryz.func131.trans (congrArg some (by kernel_rfl))
  f151 := Tryz.func115.trans (congrArg some (by kernel_rfl))
  f152 := Tryz.func127.trans (congrArg some (by kernel_rfl))
  f160 := Tryz.func78.trans (congrArg some (by kernel_rfl))
  f197 := Tryz.func112.trans (congrArg some (by kernel_rfl))
  f217 := Tryz.func86.trans (congrArg some (by kernel_rfl))
  f224 := Tryz.func88.trans (congrArg some (by kernel_rfl))
  f225 := Tryz.func87.trans (congrArg some (by kernel_rfl))
  f227 := Tryz.func95.trans (congrArg some (by kernel_rfl))
  f228 := Tryz.func114.trans (congrArg some (by kernel_rfl))
  f231 := Tryz.func93.trans (congrArg some (by kernel_rfl))
  f232 := Tryz.func94.trans (congrArg some (by kernel_rfl))
  f233 := Tryz.func96.trans (congrArg some (by kernel_rfl))
  f234 := Tryz.func97.trans (congrArg some (by kernel_rfl))
  f235 := Tryz.func98.trans (congrArg some (by kernel_rfl))
  f236 := Tryz.func99.trans (congrArg some (by kernel_rfl))
  f260 := Tryz.func126.trans (congrArg some (by kernel_rfl))
  f266 := Tryz.func109.trans (congrArg some (by kernel_rfl))
  f271 := Tryz.func116.trans (congrArg some (by kernel_rfl))
  t0 := Tryz.underlying0
  a0 := Tryz.isAgg0
  z0 := Tryz.sizeOf0
  v0 := Tryz.zeroValue0
  t3 := Tryz.underlying3
  a3 := Tryz.isAgg3
  z3 := Tryz.sizeOf3
  v3 := Tryz.zeroValue3
  t4 := Tryz.underlying4
  a4 := Tryz.isAgg4
  z4 := Tryz.sizeOf4
  v4 := Tryz.zeroValue4
  t5 := Tryz.underlying5
  a5 := Tryz.isAgg5
  z5 := Tryz.sizeOf5
  v5 := Tryz.zeroValue5
  t9 := Tryz.underlying9
  a9 := Tryz.isAgg9
  z9 := Tryz.sizeOf9
  v9 := Tryz.zeroValue9
  t21 := Tryz.underlying21
  a21 := Tryz.isAgg21
  z21 := Tryz.sizeOf21
  v21 := Tryz.zeroValue21
  t46 := Tryz.underlying131
  a46 := Tryz.isAgg131
  z46 := Tryz.sizeOf131
  v46 := Tryz.zeroValue131
  t105 := Tryz.underlying157
  a105 := Tryz.isAgg157
  z105 := Tryz.sizeOf157
  v105 := Tryz.zeroValue157
  t116 := Tryz.underlying142
  a116 := Tryz.isAgg142
  z116 := Tryz.sizeOf142
  t117 := Tryz.underlying143
  a117 := Tryz.isAgg143
  z117 := Tryz.sizeOf143
  v117 := Tryz.zeroValue143
  t119 := Tryz.underlying176
  a119 := Tryz.isAgg176
  z119 := Tryz.sizeOf176
  t124 := Tryz.underlying146
  a124 := Tryz.isAgg146
  z124 := Tryz.sizeOf146
  v124 := Tryz.zeroValue146
  t138 := Tryz.underlying178
  a138 := Tryz.isAgg178
  z138 := Tryz.sizeOf178
  v138 := Tryz.zeroValue178
  t139 := Tryz.underlying179
  a139 := Tryz.isAgg179
  z139 := Tryz.sizeOf179
  v139 := Tryz.zeroValue179
  g3 := by kernel_rfl
  g4 := by kernel_rfl }
def Tryz.laysM171_ren : Go.Shelf.Ren := ⟨fun | 171 => 39 | 243 => 56 | 246 => 72 | 283 => 81 | 284 => 82 | 285 => 83 | 286 => 84 | 129 => 104 | 317 => 103 | 318 => 105 | 319 => 106 | 320 => 107 | 337 => 124 | 338 => 125 | n => n, fun | 3 => 3 | 9 => 9 | 2 => 2 | 4 => 4 | 171 => 132 | 0 => 0 | 53 => 52 | 37 => 73 | 5 => 5 | 173 => 135 | 212 => 149 | 51 => 150 | 20 => 20 | 213 => 151 | 46 => 131 | 232 => 174 | 233 => 175 | n => n, fun | 17 => 1 | 18 => 4 | 19 => 5 | n => n⟩
theorem Tryz.laysM171 : Go.Proofs.LaysM.n171 Tryz.prog Tryz.laysM171_ren := {
  mixed := by kernel_rfl
  f129 := Tryz.func104.trans (congrArg some (by kernel_rfl))
  f171 := Tryz.func39.trans (congrArg some (by kernel_rfl))
  f243 := Tryz.func56.trans (congrArg some (by kernel_rfl))
  f246 := Tryz.func72.trans (congrArg some (by kernel_rfl))
  f283 := Tryz.func81.trans (congrArg some (by kernel_rfl))
  f284 := Tryz.func82.trans (congrArg some (by kernel_rfl))
  f285 := Tryz.func83.trans (congrArg some (by kernel_rfl))
  f286 := Tryz.func84.trans (congrArg some (by kernel_rfl))
  f317 := Tryz.func103.trans (congrArg some (by kernel_rfl))
  f318 := Tryz.func105.trans (congrArg some (by kernel_rfl))
  f319 := Tryz.func106.trans (congrArg some (by kernel_rfl))
  f320 := Tryz.func107.trans (congrArg some (by kernel_rfl))
  f337 := Tryz.func124.trans (congrArg some (by kernel_rfl))
  f338 := Tryz.func125.trans (congrArg some (by kernel_rfl))
  t0 := Tryz.underlying0
  a0 := Tryz.isAgg0
  z0 := Tryz.sizeOf0
  v0 := Tryz.zeroValue0
  t2 := Tryz.underlying2
  a2 := Tryz.isAgg2
  z2 := Tryz.sizeOf2
  v2 := Tryz.zeroValue2
  t3 := Tryz.underlying3
  a3 := Tryz.isAgg3
  z3 := Tryz.sizeOf3
  v3 := Tryz.zeroValue3
  t4 := Tryz.underlying4
  a4 := Tryz.isAgg4
  z4 := Tryz.sizeOf4
  v4 := Tryz.zeroValue4
  t5 := Tryz.underlying5
  a5 := Tryz.isAgg5
  z5 := Tryz.sizeOf5
  v5 := Tryz.zeroValue5
  t9 := Tryz.underlying9
  a9 := Tryz.isAgg9
  z9 := Tryz.sizeOf9
  v9 := Tryz.zeroValue9
  t20 := Tryz.underlying20
  a20 := Tryz.isAgg20
  z20 := Tryz.sizeOf20
  v20 := Tryz.zeroValue20
  t37 := Tryz.underlying73
  a37 := Tryz.isAgg73
  z37 := Tryz.sizeOf73
  v37 := Tryz.zeroValue73
  t46 := Tryz.underlying131
  a46 := Tryz.isAgg131
  z46 := Tryz.sizeOf131
  v46 := Tryz.zeroValue131
  t51 := Tryz.underlying150
  a51 := Tryz.isAgg150
  z51 := Tryz.sizeOf150
  v51 := Tryz.zeroValue150
  t53 := Tryz.underlying52
  a53 := Tryz.isAgg52
  z53 := Tryz.sizeOf52
  v53 := Tryz.zeroValue52
  t171 := Tryz.underlying132
  a171 := Tryz.isAgg132
  z171 := Tryz.sizeOf132
  v171 := Tryz.zeroValue132
  t173 := Tryz.underlying135
  a173 := Tryz.isAgg135
  z173 := Tryz.sizeOf135
  v173 := Tryz.zeroValue135
  t212 := Tryz.underlying149
  a212 := Tryz.isAgg149
  z212 := Tryz.sizeOf149
  v212 := Tryz.zeroValue149
  t213 := Tryz.underlying151
  a213 := Tryz.isAgg151
  z213 := Tryz.sizeOf151
  t232 := Tryz.underlying174
  a232 := Tryz.isAgg174
  z232 := Tryz.sizeOf174
  v232 := Tryz.zeroValue174
  t233 := Tryz.underlying175
  a233 := Tryz.isAgg175
  z233 := Tryz.sizeOf175
  v233 := Tryz.zeroValue175
  g17 := by kernel_rfl
  g18 := by kernel_rfl
  g19 := by kernel_rfl
  i0 := by kernel_rfl
  i2 := by kernel_rfl
  i3 := by kernel_rfl
  i4 := by kernel_rfl
  i5 := by kernel_rfl
  i9 := by kernel_rfl
  i20 := by kernel_rfl
  i37 := by kernel_rfl
  i46 := by kernel_rfl
  i51 := by kernel_rfl
  i53 := by kernel_rfl
  i171 := by kernel_rfl
  i173 := by kernel_rfl
  i212 := by kernel_rfl
  i232 := by kernel_rfl
  i233 := by kernel_rfl
  m17 := by kernel_rfl
  m18 := by kernel_rfl
  m19 := by kernel_rfl }
def Tryz.lays172_ren : Go.Shelf.Ren := ⟨fun | 172 => 79 | 244 => 100 | 245 => 101 | 247 => 117 | 279 => 118 | 280 => 119 | 281 => 120 | 282 => 121 | 287 => 102 | 316 => 129 | 171 => 39 | 205 => 130 | 321 => 122 | 322 => 123 | 243 => 56 | 246 => 72 | 283 => 81 | 284 => 82 | 285 => 83 | 286 => 84 | 129 => 104 | 317 => 103 | 318 => 105 | 319 => 106 | 320 => 107 | 337 => 124 | 338 => 125 | n => n, fun | 9 => 9 | 3 => 3 | 75 => 48 | 76 => 83 | 4 => 4 | 5 => 5 | 167 => 161 | 37 => 73 | 0 => 0 | 85 => 162 | 2 => 2 | 168 => 164 | 53 => 52 | 175 => 129 | 46 => 131 | 210 => 172 | 127 => 110 | 145 => 183 | 143 => 181 | 21 => 21 | 171 => 132 | 173 => 135 | 212 => 149 | 51 => 150 | 20 => 20 | 213 => 151 | 232 => 174 | 233 => 175 | 80 => 85 | n => n, fun | 15 => 2 | 16 => 3 | 17 => 1 | 18 => 4 | 19 => 5 | n => n⟩
theorem Tryz.lays172 : Go.Proofs.Lays.n172 Tryz.prog Tryz.lays172_ren := {
  mixed := by kernel_rfl
  f129 := Tryz.func104.trans (congrArg some (by kernel_rfl))
  f171 := Tryz.func39.trans (congrArg some (by kernel_rfl))
  f172 := Tryz.func79.trans (congrArg some (by kernel_rfl))
  f205 := Tryz.func130.trans (congrArg some (by kernel_rfl))
  f243 := Tryz.func56.trans (congrArg some (by kernel_rfl))
  f244 := Tryz.func100.trans (congrArg some (by kernel_rfl))
  f245 := Tryz.func101.trans (congrArg some (by kernel_rfl))
  f246 := Tryz.func72.trans (congrArg some (by kernel_rfl))
  f247 := Tryz.func117.trans (congrArg some (by kernel_rfl))
  f279 := Tryz.func118.trans (congrArg some (by kernel_rfl))
  f280 := Tryz.func119.trans (congrArg some (by kernel_rfl))
  f281 := Tryz.func120.trans (congrArg some (by kernel_rfl))
  f282 := Tryz.func121.trans (congrArg some (by kernel_rfl))
  f283 := Tryz.func81.trans (congrArg some (by kernel_rfl))
  f284 := Tryz.func82.trans (congrArg some (by kernel_rfl))
  f285 := Tryz.func83.trans (congrArg some (by kernel_rfl))
  f286 := Tryz.func84.trans (congrArg some (by kernel_rfl))
  f287 := Tryz.func102.trans (congrArg some (by kernel_rfl))
  f316 := Tryz.func129.trans (congrArg some (by kernel_rfl))
  f317 := Tryz.func103.trans (congrArg some (by kernel_rfl))
  f318 := Tryz.func105.trans (congrArg some (by kernel_rfl))
  f319 := Tryz.func106.trans (congrArg some (by kernel_rfl))
  f320 := Tryz.func107.trans (congrArg some (by kernel_rfl))
  f321 := Tryz.func122.trans (congrArg some (by kernel_rfl))
  f322 := Tryz.func123.trans (congrArg some (by kernel_rfl))
  f337 := Tryz.func124.trans (congrArg some (by kernel_rfl))
  f338 := Tryz.func125.trans (congrArg some (by kernel_rfl))
  t0 := Tryz.underlying0
  a0 := Tryz.isAgg0
  z0 := Tryz.sizeOf0
  v0 := Tryz.zeroValue0
  t2 := Tryz.underlying2
  a2 := Tryz.isAgg2
  z2 := Tryz.sizeOf2
  v2 := Tryz.zeroValue2
  t3 := Tryz.underlying3
  a3 := Tryz.isAgg3
  z3 := Tryz.sizeOf3
  v3 := Tryz.zeroValue3
  t4 := Tryz.underlying4
  a4 := Tryz.isAgg4
  z4 := Tryz.sizeOf4
  v4 := Tryz.zeroValue4
  t5 := Tryz.underlying5
  a5 := Tryz.isAgg5
  z5 := Tryz.sizeOf5
  v5 := Tryz.zeroValue5
  t9 := Tryz.underlying9
  a9 := Tryz.isAgg9
  z9 := Tryz.sizeOf9
  v9 := Tryz.zeroValue9
  t20 := Tryz.underlying20
  a20 := Tryz.isAgg20
  z20 := Tryz.sizeOf20
  v20 := Tryz.zeroValue20
  t21 := Tryz.underlying21
  a21 := Tryz.isAgg21
  z21 := Tryz.sizeOf21
  v21 := Tryz.zeroValue21
  t37 := Tryz.underlying73
  a37 := Tryz.isAgg73
  z37 := Tryz.sizeOf73
  v37 := Tryz.zeroValue73
  t46 := Tryz.underlying131
  a46 := Tryz.isAgg131
  z46 := Tryz.sizeOf131
  v46 := Tryz.zeroValue131
  t51 := Tryz.underlying150
  a51 := Tryz.isAgg150
  z51 := Tryz.sizeOf150
  v51 := Tryz.zeroValue150
  t53 := Tryz.underlying52
  a53 := Tryz.isAgg52
  z53 := Tryz.sizeOf52
  v53 := Tryz.zeroValue52
  t75 := Tryz.underlying48
  a75 := Tryz.isAgg48
  z75 := Tryz.sizeOf48
  v75 := Tryz.zeroValue48
  t76 := Tryz.underlying83
  a76 := Tryz.isAgg83
  z76 := Tryz.sizeOf83
  v76 := Tryz.zeroValue83
  t85 := Tryz.underlying162
  a85 := Tryz.isAgg162
  z85 := Tryz.sizeOf162
  v85 := Tryz.zeroValue162
  t127 := Tryz.underlying110
  a127 := Tryz.isAgg110
  z127 := Tryz.sizeOf110
  v127 := Tryz.zeroValue110
  t143 := Tryz.underlying181
  a143 := Tryz.isAgg181
  z143 := Tryz.sizeOf181
  v143 := Tryz.zeroValue181
  t145 := Tryz.underlying183
  a145 := Tryz.isAgg183
  z145 := Tryz.sizeOf183
  v145 := Tryz.zeroValue183
  t167 := Tryz.underlying161
  a167 := Tryz.isAgg161
  z167 := Tryz.sizeOf161
  v167 := Tryz.zeroValue161
  t168 := Tryz.underlying164
  a168 := Tryz.isAgg164
  z168 := Tryz.sizeOf164
  v168 := Tryz.zeroValue164
  t171 := Tryz.underlying132
  a171 := Tryz.isAgg132
  z171 := Tryz.sizeOf132
  v171 := Tryz.zeroValue132
  t173 := Tryz.underlying135
  a173 := Tryz.isAgg135
  z173 := Tryz.sizeOf135
  v173 := Tryz.zeroValue135
  t175 := Tryz.underlying129
  a175 := Tryz.isAgg129
  z175 := Tryz.sizeOf129
  v175 := Tryz.zeroValue129
  t210 := Tryz.underlying172
  a210 := Tryz.isAgg172
  z210 := Tryz.sizeOf172
  v210 := Tryz.zeroValue172
  t212 := Tryz.underlying149
  a212 := Tryz.isAgg149
  z212 := Tryz.sizeOf149
  v212 := Tryz.zeroValue149
  t213 := Tryz.underlying151
  a213 := Tryz.isAgg151
  z213 := Tryz.sizeOf151
  t232 := Tryz.underlying174
  a232 := Tryz.isAgg174
  z232 := Tryz.sizeOf174
  v232 := Tryz.zeroValue174
  t233 := Tryz.underlying175
  a233 := Tryz.isAgg175
  z233 := Tryz.sizeOf175
  v233 := Tryz.zeroValue175
  g15 := by kernel_rfl
  g16 := by kernel_rfl
  g17 := by kernel_rfl
  g18 := by kernel_rfl
  g19 := by kernel_rfl }
def Tryz.laysC245_ren : Go.Shelf.Ren := ⟨fun | 245 => 101 | 279 => 118 | 280 => 119 | 281 => 120 | 282 => 121 | 316 => 129 | 171 => 39 | 205 => 130 | 243 => 56 | 246 => 72 | 283 => 81 | 284 => 82 | 285 => 83 | 286 => 84 | 129 => 104 | 317 => 103 | 318 => 105 | 319 => 106 | 320 => 107 | 337 => 124 | 338 => 125 | n => n, fun | 9 => 9 | 3 => 3 | 75 => 48 | 167 => 161 | 4 => 4 | 168 => 164 | 210 => 172 | 37 => 73 | 0 => 0 | 127 => 110 | 145 => 183 | 143 => 181 | 2 => 2 | 171 => 132 | 53 => 52 | 5 => 5 | 173 => 135 | 212 => 149 | 51 => 150 | 20 => 20 | 213 => 151 | 46 => 131 | 232 => 174 | 233 => 175 | 80 => 85 | n => n, fun | 15 => 2 | 16 => 3 | 17 => 1 | 18 => 4 | 19 => 5 | n => n⟩
theorem Tryz.laysC245 : Go.Proofs.LaysC.n245 Tryz.prog Tryz.laysC245_ren := {
  mixed := by kernel_rfl
  f129 := Tryz.func104.trans (congrArg some (by kernel_rfl))
  f171 := Tryz.func39.trans (congrArg some (by kernel_rfl))
  f205 := Tryz.func130.trans (congrArg some (by kernel_rfl))
  f243 := Tryz.func56.trans (congrArg some (by kernel_rfl))
  f245 := Tryz.func101.trans (congrArg some (by kernel_rfl))
  f246 := Tryz.func72.trans (congrArg some (by kernel_rfl))
  f279 := Tryz.func118.trans (congrArg some (by kernel_rfl))
  f280 := Tryz.func119.trans (congrArg some (by kernel_rfl))
  f281 := Tryz.func120.trans (congrArg some (by kernel_rfl))
  f282 := Tryz.func121.trans (congrArg some (by kernel_rfl))
  f283 := Tryz.func81.trans (congrArg some (by kernel_rfl))
  f284 := Tryz.func82.trans (congrArg some (by kernel_rfl))
  f285 := Tryz.func83.trans (congrArg some (by kernel_rfl))
  f286 := Tryz.func84.trans (congrArg some (by kernel_rfl))
  f316 := Tryz.func129.trans (congrArg some (by kernel_rfl))
  f317 := Tryz.func103.trans (congrArg some (by kernel_rfl))
  f318 := Tryz.func105.trans (congrArg some (by kernel_rfl))
  f319 := Tryz.func106.trans (congrArg some (by kernel_rfl))
  f320 := Tryz.func107.trans (congrArg some (by kernel_rfl))
  f337 := Tryz.func124.trans (congrArg some (by kernel_rfl))
  f338 := Tryz.func125.trans (congrArg some (by kernel_rfl))
  t0 := Tryz.underlying0
  a0 := Tryz.isAgg0
  z0 := Tryz.sizeOf0
  v0 := Tryz.zeroValue0
  t2 := Tryz.underlying2
  a2 := Tryz.isAgg2
  z2 := Tryz.sizeOf2
  v2 := Tryz.zeroValue2
  t3 := Tryz.underlying3
  a3 := Tryz.isAgg3
  z3 := Tryz.sizeOf3
  v3 := Tryz.zeroValue3
  t4 := Tryz.underlying4
  a4 := Tryz.isAgg4
  z4 := Tryz.sizeOf4
  v4 := Tryz.zeroValue4
  t5 := Tryz.underlying5
  a5 := Tryz.isAgg5
  z5 := Tryz.sizeOf5
  v5 := Tryz.zeroValue5
  t9 := Tryz.underlying9
  a9 := Tryz.isAgg9
  z9 := Tryz.sizeOf9
  v9 := Tryz.zeroValue9
  t20 := Tryz.underlying20
  a20 := Tryz.isAgg20
  z20 := Tryz.sizeOf20
  v20 := Tryz.zeroValue20
  t37 := Tryz.underlying73
  a37 := Tryz.isAgg73
  z37 := Tryz.sizeOf73
  v37 := Tryz.zeroValue73
  t46 := Tryz.underlying131
  a46 := Tryz.isAgg131
  z46 := Tryz.sizeOf131
  v46 := Tryz.zeroValue131
  t51 := Tryz.underlying150
  a51 := Tryz.isAgg150
  z51 := Tryz.sizeOf150
  v51 := Tryz.zeroValue150
  t53 := Tryz.underlying52
  a53 := Tryz.isAgg52
  z53 := Tryz.sizeOf52
  v53 := Tryz.zeroValue52
  t75 := Tryz.underlying48
  a75 := Tryz.isAgg48
  z75 := Tryz.sizeOf48
  v75 := Tryz.zeroValue48
  t127 := Tryz.underlying110
  a127 := Tryz.isAgg110
  z127 := Tryz.sizeOf110
  v127 := Tryz.zeroValue110
  t143 := Tryz.underlying181
  a143 := Tryz.isAgg181
  z143 := Tryz.sizeOf181
  v143 := Tryz.zeroValue181
  t145 := Tryz.underlying183
  a145 := Tryz.isAgg183
  z145 := Tryz.sizeOf183
  v145 := Tryz.zeroValue183
  t167 := Tryz.underlying161
  a167 := Tryz.isAgg161
  z167 := Tryz.sizeOf161
  v167 := Tryz.zeroValue161
  t168 := Tryz.underlying164
  a168 := Tryz.isAgg164
  z168 := Tryz.sizeOf164
  v168 := Tryz.zeroValue164
  t171 := Tryz.underlying132
  a171 := Tryz.isAgg132
  z171 := Tryz.sizeOf132
  v171 := Tryz.zeroValue132
  t173 := Tryz.underlying135
  a173 := Tryz.isAgg135
  z173 := Tryz.sizeOf135
  v173 := Tryz.zeroValue135
  t210 := Tryz.underlying172
  a210 := Tryz.isAgg172
  z210 := Tryz.sizeOf172
  v210 := Tryz.zeroValue172
  t212 := Tryz.underlying149
  a212 := Tryz.isAgg149
  z212 := Tryz.sizeOf149
  v212 := Tryz.zeroValue149
  t213 := Tryz.underlying151
  a213 := Tryz.isAgg151
  z213 := Tryz.sizeOf151
  t232 := Tryz.underlying174
  a232 := Tryz.isAgg174
  z232 := Tryz.sizeOf174
  v232 := Tryz.zeroValue174
  t233 := Tryz.underlying175
  a233 := Tryz.isAgg175
  z233 := Tryz.sizeOf175
  v233 := Tryz.zeroValue175
  g15 := by kernel_rfl
  g16 := by kernel_rfl
  g17 := by kernel_rfl
  g18 := by kernel_rfl
  g19 := by kernel_rfl
  t80 := Tryz.underlying85
  a80 := Tryz.isAgg85
  z80 := Tryz.sizeOf85
  v80 := Tryz.zeroValue85
  i0 := by kernel_rfl
  i2 := by kernel_rfl
  i3 := by kernel_rfl
  i4 := by kernel_rfl
  i5 := by kernel_rfl
  i9 := by kernel_rfl
  i20 := by kernel_rfl
  i37 := by kernel_rfl
  i46 := by kernel_rfl
  i51 := by kernel_rfl
  i53 := by kernel_rfl
  i75 := by kernel_rfl
  i80 := by kernel_rfl
  i127 := by kernel_rfl
  i143 := by kernel_rfl
  i145 := by kernel_rfl
  i167 := by kernel_rfl
  i168 := by kernel_rfl
  i171 := by kernel_rfl
  i173 := by kernel_rfl
  i210 := by kernel_rfl
  i212 := by kernel_rfl
  i232 := by kernel_rfl
  i233 := by kernel_rfl
  m15 := by kernel_rfl
  m16 := by kernel_rfl
  m17 := by kernel_rfl
  m18 := by kernel_rfl
  m19 := by kernel_rfl
  c0 := by kernel_rfl
  c2 := by kernel_rfl
  c3 := by kernel_rfl
  c4 := by kernel_rfl
  c5 := by kernel_rfl
  c9 := by kernel_rfl
  c20 := by kernel_rfl
  c37 := by kernel_rfl
  c46 := by kernel_rfl
  c51 := by kernel_rfl
  c53 := by kernel_rfl
  c75 := by kernel_rfl
  c80 := by kernel_rfl
  c127 := by kernel_rfl
  c143 := by kernel_rfl
  c145 := by kernel_rfl
  c167 := by kernel_rfl
  c168 := by kernel_rfl
  c171 := by kernel_rfl
  c173 := by kernel_rfl
  c210 := by kernel_rfl
  c212 := by kernel_rfl
  c213 := by kernel_rfl
  c232 := by kernel_rfl
  c233 := by kernel_rfl }
end Go.Proofs
/- Mv: texts made of bytes by the pointers of package unsafe, and bytes out of texts. -/
namespace Go.Mv
open Go
set_option linter.unusedVariables false
/-- A block with this very object. -/
def ob (b : Nat) (o : Obj) : Asn := fun m => m b = some o
theorem ob_new {L : List Asn} {m m2 : Mem} (h : Sep L m) {b : Nat} {o : Obj} (hb : m b = none) (he : m2 = m.set b o) : Sep (ob b o :: L) m2 := by
  subst he
  refine ⟨fun k => if k = b then some o else none, m, fun k => ?_, fun k o2 hk => ?_, Mem.le_set hb, ?_, h⟩
  · by_cases hk : k = b
    · subst hk; exact .inr hb
    · exact .inl (by simp [hk])
  · by_cases hkb : k = b
    · subst hkb
      simp at hk
      subst hk
      simp [Mem.set]
    · simp [hkb] at hk
  · simp [ob]
theorem ob_get {L : List Asn} {m : Mem} (h : Sep L m) (j : Nat) {b : Nat} {o : Obj} (hj : L[j]? = some (ob b o)) : m b = some o := by
  obtain ⟨m1, h1, h2⟩ := h.get j hj
  exact h1 _ _ h2
section
variable {P : Program} {m : Mem} {K : Value → Mem → Prop}
theorem slicedata {ts : Array TypeId} {ty e : TypeId} {cs : Array Bool} {A : Option Addr} {n c : Nat} (hp : P.underlying ty = some (.pointer e)) (hA : ∀ a, A = some a → ∃ cc e2 z, m a.block = some (.cells cc e2 z))
    (h : ∀ q, (c ≠ 0 → q = A) → K (.pointer q) m) : NextP P (builtin .unsafeSliceData ts ty cs #[.slice A n c]) m K := by
  intro w hw
  cases A with
  | none =>
    refine ⟨_, w, m, ?_, h none fun _ => rfl, Frame.refl hw⟩
    simp only [builtin, Sem.run_bind, Lib.run_unsafeSliceData_nil]
    rfl
  | some a =>
    by_cases hc : c = 0
    · subst hc
      obtain ⟨cc, e2, z, hb⟩ := hA a rfl
      have hsh : w.shape? a.block = some (e2, cc.size) := by
        have := hw _ _ hb
        simp [World.shape?, this]
      refine ⟨_, w.alloc (.view a e), m, ?_, h (some ⟨w.heap.size, 0, none⟩) fun h => absurd rfl h, ?_⟩
      · simp only [builtin, Sem.run_bind, Lib.run_unsafeSliceData_zero w ts ty e hp a n _ hsh]
        rfl
      · exact (Frame.alloc (Frame.refl hw) (.view a e)).less fun b o hb => by
          rw [Mem.set_ne (by rintro rfl; rw [sub_fresh hw] at hb; cases hb)]
          exact hb
    · refine ⟨_, w, m, ?_, h (some a) fun _ => rfl, Frame.refl hw⟩
      simp only [builtin, Sem.run_bind, Lib.run_unsafeSliceData_row w ts ty a n c hc]
      rfl
/-- Frozen bytes are forgotten. -/
theorem Frame.freeze {w : World} (hw : m.sub w) {b i n : Nat} {q : Option Nat} (hb : m b ≠ none) : Frame m w (m.del b) (w.freeze ⟨b, i, none⟩ n) := by
  by_cases hn : n = 0
  · rw [World.freeze, if_pos hn]
    exact (Frame.refl hw).less fun k o hk => by
      unfold Mem.del at hk
      by_cases hkb : k = b
      · simp [hkb] at hk
      · simpa [hkb] using hk
  · rw [World.freeze, if_neg hn]
    refine ⟨rfl, ⟨rfl, .refl⟩, rfl, by simp, fun c o' hc => ?_, fun c hc hn => ?_, fun c hc => ?_⟩
    · unfold Mem.del at hc
      by_cases hcb : c = b
      · simp [hcb] at hc
      · simp only [hcb, if_false] at hc
        show (w.heap.modify b _)[c]? = _
        rw [Array.getElem?_modify, if_neg (Ne.symm hcb)]
        exact hw c o' hc
    · have hcb : b ≠ c := by rintro rfl; exact hb hn
      show (w.heap.modify b _)[c]? = _
      rw [Array.getElem?_modify, if_neg hcb]
    · unfold Mem.del at hc
      by_cases hcb : c = b
      · simp [hcb] at hc
      · simp only [hcb, if_false] at hc
        exact .inl hc
theorem ustring {pt it ty e : TypeId} {cs : Array Bool} (hp : P.underlying pt = some (.pointer e)) (hc : P.cellsOf e = 1) {q : Option Addr} {l : List UInt8} (h63 : l.length ≤ 9223372036854775807)
    (hq : l ≠ [] → ∃ g cc z, q = some ⟨g, 0, none⟩ ∧ m g = some (.cells cc e z) ∧ l.length ≤ cc.size ∧ ∀ (j : Nat) x, l[j]? = some x → cc[j]? = some (.int .u8 x.toNat))
    (h : ∀ m2, K (.string ⟨l.toArray⟩) m2) : NextP P (builtin .unsafeString #[pt, it] ty cs #[.pointer q, .int .i64 (l.length : Nat)]) m K := by
  intro w hw
  by_cases hl : l = []
  · subst hl
    refine ⟨_, w, m, ?_, h m, Frame.refl hw⟩
    simp only [builtin, Sem.run_bind]
    rw [show (Builtin.unsafeString_ #[pt, it] ty #[.pointer q, .int .i64 (([] : List UInt8).length : Nat)]).run P w = _ from Lib.run_unsafeString_none w pt it ty q]
    rfl
  · obtain ⟨g, cc, z, rfl, hg, hn, hcell⟩ := hq hl
    have hg2 := hw _ _ hg
    refine ⟨_, _, m.del g, ?_, h _, Frame.freeze hw (i := 0) (n := l.length) (q := none) (by rw [hg]; simp)⟩
    simp only [builtin, Sem.run_bind, Lib.run_unsafeString_row w pt it ty e hp hc g cc.size (by simp [World.shape?, hg2]) l hl hn h63 (fun j x hx => by
      have := hcell j x hx
      by_cases hj : j = 0
      · subst hj; simp [World.cell?, Addr.add, hg2, this]
      · simp [World.cell?, Addr.add, hg2, this, hj])]
    rfl
theorem tobytes {src dst e : TypeId} {s : ByteArray} {u : TypeDesc} (hs : P.underlying src = some u) (hd : P.underlying dst = some (.slice e)) (he : P.underlying e = some (.int .u8))
    (h : ∀ (b c : Nat) (o : Obj) (m2 : Mem), m b = none → m2 = m.set b o → (∃ cc z, o = .cells cc e z ∧ ∀ j, j < s.size → cc[j]? = some (.int .u8 (s.data.toList.getD j 0).toNat)) → K (.slice (some ⟨b, 0, none⟩) s.size c) m2) : RunP P (Go.convert src dst (.string s)) m K := by
  intro w hw
  refine ⟨_, _, _, Lib.run_convert_string_bytes w src dst e s hs hd he, h w.heap.size _ (.cells (Lib.bytesCells w e s) e ((Lib.bytesCells w e s).size, (Lib.bytesCells w e s).size + 1)) _ (sub_fresh hw) rfl ⟨_, _, rfl, fun j hj => ?_⟩, ?_⟩
  · have := Lib.bytesWorld_cell w e s j hj
    rw [World.cell?, Lib.bytesWorld_at_new] at this
    simpa using this
  · refine ⟨?_, ⟨?_, ?_⟩, ?_, ?_, fun b o hb => ?_, fun b hb _ => Lib.bytesWorld_at_old w e s b hb, fun b hb => ?_⟩
    · simp [Lib.bytesWorld, World.freeze, World.alloc, World.drew, -World.alloc_eq, -World.drew_eq]
    · simp [Lib.bytesWorld, World.freeze, World.alloc, World.drew, -World.alloc_eq, -World.drew_eq]
    · refine .of ?_; simp [Lib.bytesWorld, World.freeze, World.alloc, World.drew, -World.alloc_eq, -World.drew_eq]
    · simp [Lib.bytesWorld, World.freeze, World.alloc, World.drew, -World.alloc_eq, -World.drew_eq]
    · rw [Lib.bytesWorld_size]; omega
    · by_cases hbn : b = w.heap.size
      · subst hbn
        rw [Lib.bytesWorld_at_new]
        simpa [Mem.set] using hb
      · rw [Mem.set_ne hbn] at hb
        rw [Lib.bytesWorld_at_old w e s b (Mem.sub_lt hw (by rw [hb]; simp))]
        exact hw b o hb
    · by_cases hbn : b = w.heap.size
      · exact .inr (Nat.le_of_eq hbn.symm)
      · rw [Mem.set_ne hbn] at hb
        exact .inl hb
end
end Go.Mv
/- Mv: functions that may panic; a function that defers a closure, which recovers. -/
namespace Go.Mv
open Go
def retKP (T : Tbl) (rs : List ResultVar) (K KP : Value → Mem → Prop) (e : Exit) (S : St) : Prop :=
  match e with
  | .normal | .ret => resK T S rs fun vs => K (single vs) S.m
  | .panic c => ∃ x, c = chain x ∧ KP x S.m
  | _ => False
section
variable {P : Program} {T : Tbl} {B pr : List Nat} {ψ : Nat → Nat} {N : Nat} {D : HD} {m0 : Mem} {w0 : World} {S S' : St} {a : Act} {w w' : World} {v : Value}

/-- The marks are come to, one behind the other; then what stands behind them. -/
theorem leavesG {fn : Func} {R : Ending → World → Prop} {u : FrameMode} (hu : u ≠ .run) {ds : List Deferred} {hid : List (Nat × Obj)} {S : St} :
    ∀ (bs : List Nat) (a : Act) (w : World), (∀ w', Rel ψ N ⟨ds, hid⟩ m0 w0 S { a with defers := ds } w' → LeavesInM (Fr none) 0 P fn a.tmps R ds u w') → bs.Nodup → (∀ b, b ∈ bs → w0.heap.size ≤ b ∧ ∀ o, (b, o) ∉ hid) →
    Rel ψ N ⟨bs.map mark ++ ds, (bs.map fun b => (b, Obj.deferred (some []))) ++ hid⟩ m0 w0 S a w → LeavesInM (Fr none) 0 P fn a.tmps R (bs.map mark ++ ds) u w
  | [], a, w, hfin, _, _, hR => by
    refine hfin w ?_
    have hd : a.defers = ds := hR.defers
    obtain ⟨t, d⟩ := a
    simp only at hd
    subst hd
    exact hR
  | b :: bs, a, w, hfin, hn, hb, hR => by
    obtain ⟨hn1, hn2⟩ := List.nodup_cons.1 hn
    obtain ⟨h1, h2, h3⟩ := hR.marks b (.deferred (some [])) List.mem_cons_self
    refine ⟨hu, .inl ⟨b, _, rfl, run_takeDeferred h1, ?_⟩⟩
    have hoth : ∀ {k : Nat}, k ≠ b → (w.putObj b (.deferred none)).heap[k]? = w.heap[k]? := fun hk => World.putObj_heap_other hk
    refine leavesG hu bs { a with defers := bs.map mark ++ ds } _ hfin hn2 (fun c hc => hb c (List.mem_cons_of_mem _ hc)) ⟨hR.size, rfl, hR.env, fun i c hc => ?_, hR.inj, ?_, fun c o hc => ?_⟩
    · obtain ⟨e, g1, g2, g3⟩ := hR.box i c hc
      exact ⟨e, by rw [hoth (h3 i (List.getElem?_eq_some_iff.1 hc).1)]; exact g1, g2, g3⟩
    · refine ⟨hR.frame.os, hR.frame.tape, hR.frame.output, by rw [World.putObj_size]; exact hR.frame.size, fun c o hc => ?_, fun c hc hn => ?_, hR.frame.dom⟩
      · rw [hoth (by rintro rfl; rw [h2] at hc; cases hc)]
        exact hR.frame.sub c o hc
      · rw [hoth (by have := (hb b List.mem_cons_self).1; omega)]
        exact hR.frame.keep c hc hn
    · obtain ⟨g1, g2, g3⟩ := hR.marks c o (List.mem_cons_of_mem _ hc)
      refine ⟨?_, g2, g3⟩
      rw [hoth]
      · exact g1
      · rintro rfl
        rcases List.mem_append.1 hc with hc | hc
        · obtain ⟨d, hd, hde⟩ := List.mem_map.1 hc
          cases hde
          exact hn1 hd
        · exact (hb c List.mem_cons_self).2 o hc
/-- A function that may panic. -/
theorem pcalls_of_vc (hT : T.ok P = true) (hB : bodiesOk P B = true) (hm : P.follows .mixedOrders = true) {g : Nat} {fn : Func} {c : Code} {DR : List (Nat × DE)} (hf : P.funcs[g]? = some fn) (hb : fn.body = some c)
    (hok : codeOk T fn.ntmps DR c = true) {args : List AV} (hlen : args.length ≤ fn.ntmps) (hpl : (args.all AV.plain) = true) {m : Mem} {K KP : Value → Mem → Prop} (h : vc P T B pr DR c (retKP T fn.results.toList K KP) ⟨argEnv 0 args, [], m⟩) :
    PCalls P g (args.map AV.toV) m K KP := by
  intro w hw
  have hrun := vc_sound (N := fn.ntmps) hT hB hm c none ⟨[], []⟩ m w _ _ (.inl rfl) hok h
  have h1 := hrun (bodyPostM (Fr none) 0 P fn fun e w' => ∃ v m', ((e = .returned v ∧ K v m') ∨ (e = .panicked (chain v) ∧ KP v m')) ∧ Frame m w m' w') _ w ⟨_, argEnv_start args fn.ntmps hlen hpl m w hw⟩ (fun e S' a' w' hk hR' => by
    obtain ⟨D', ⟨bs, h1, h2, h3, h4⟩, ψ, hR⟩ := hR'
    have hd := hR.defers
    obtain ⟨d1, d2⟩ := D'
    simp only at h1 h2
    subst h1 h2
    have ret : (resK T S' fn.results.toList fun vs => K (single vs) S'.m) → LeavesInM (Fr none) 0 P fn a'.tmps (fun e w' => ∃ v m', ((e = .returned v ∧ K v m') ∨ (e = .panicked (chain v) ∧ KP v m')) ∧ Frame m w m' w') a'.defers .returning w' := by
      intro hk
      rw [hd]
      refine leavesG (by simp) bs a' w' (fun w1 hR1 => ?_) h3 (fun b hb => ⟨(h4 b hb).1, fun o h => by cases h⟩) hR
      obtain ⟨v, hv, hk⟩ := results_sound hT hR1 (fn := fn) (K := K) hk
      exact ⟨v, hv, v, _, .inl ⟨rfl, hk⟩, hR1.frame⟩
    cases e with
    | normal => exact ret hk
    | ret => exact ret hk
    | panic c =>
      obtain ⟨x, rfl, hk⟩ := hk
      show LeavesInM (Fr none) 0 P fn a'.tmps _ a'.defers (.panicking (chain x)) w'
      rw [hd]
      refine leavesG (by simp) bs a' w' (fun w1 hR1 => ?_) h3 (fun b hb => ⟨(h4 b hb).1, fun o h => by cases h⟩) hR
      exact ⟨x, _, .inr ⟨rfl, hk⟩, hR1.frame⟩
    | _ => exact hk.elim)
  exact callsIn_wide.1 (callsIn_of_wp_marks (F := Fr none) (n := 0) hf hb trivial h1 : CallsIn Fence.wide 0 P g _ w _)

/-! ### a deferred closure -/
/-- A deferred call, made by a frame on its way out in mode u, which is left in mode u'. -/
def DCalls (P : Program) (g : FuncId) (args : List Value) (m : Mem) (u u' : FrameMode) (K : Mem → Prop) : Prop :=
  ∀ w, m.sub w → CallsDIn (Fr none) 0 P g args.toArray u w fun e u1 w' => ∃ v m', e = .returned v ∧ u1 = u' ∧ K m' ∧ Frame m w m' w'
def doorK (P : Program) (T : Tbl) (gd : FuncId) (dargs : List Value) (rs : List ResultVar) (K : Value → Mem → Prop) (e : Exit) (S : St) : Prop :=
  match e with
  | .normal | .ret => DCalls P gd dargs S.m .returning .returning fun m' => resK T ⟨S.env, S.ls, m'⟩ rs fun vs => K (single vs) m'
  | .panic c => ∃ x, c = chain x ∧ DCalls P gd dargs S.m (.panicking (chain x)) (.panicking [{ v := x, recovered := true }]) fun m' => resK T ⟨S.env, S.ls, m'⟩ rs fun vs => K (single vs) m'
  | _ => False
/-- The closure that is deferred. -/
def closK (x : AV) (k : FuncId → List Value → Prop) : Prop :=
  match x with
  | .v v => match v with
    | .func f first cap => match f with
      | .func g => k g (first.toList ++ cap.toList)
      | _ => False
    | _ => False
  | _ => False
theorem closK_spec {x : AV} {k : FuncId → List Value → Prop} (h : closK x k) : ∃ g first cap, x = .v (.func (.func g) first cap) ∧ k g (first.toList ++ cap.toList) := by
  unfold closK at h
  split at h
  · split at h
    · split at h
      · exact ⟨_, _, _, rfl, h⟩
      · exact h.elim
    · exact h.elim
  · exact h.elim
noncomputable def deferP (P : Program) (T : Tbl) (B pr : List Nat) (DR : List (Nat × DE)) (c0 c1 : Code) (ops : List Oper) (o1 : Oper) (f : Operand) (y : Code) (rs : List ResultVar) (K : Value → Mem → Prop) (S : St) : Prop :=
  vc P T B pr DR c0 (fun e S => match e with
    | .normal => vc P T B pr DR c1 (fun e S => match e with
      | .normal => opStep P T B pr ops o1 (fun S _ => evK S f fun x => closK x fun g vs => req (B.contains g) <| vc P T B pr DR y (doorK P T g vs rs K) S) S (fun _ => True)
      | _ => False) S
    | _ => False) S
theorem door_leaves (hT : T.ok P = true) (hB : bodiesOk P B = true) {fn : Func} {K : Value → Mem → Prop} {S : St} {g : Nat} {first cap : Array Value} {cs : List Nat} {u u' : FrameMode} (hu : u ≠ .run) (hset : settle u' = .returning) (hg : B.contains g = true)
    (hd : DCalls P g (first.toList ++ cap.toList) S.m u u' fun m' => resK T ⟨S.env, S.ls, m'⟩ fn.results.toList fun vs => K (single vs) m') (hcs : cs.Nodup) (hcb : ∀ b, b ∈ cs → w0.heap.size ≤ b)
    (a : Act) (w : World) (hR : Rel ψ N ⟨⟨.fn (.func g) cap, first⟩ :: cs.map mark, cs.map fun b => (b, Obj.deferred (some []))⟩ m0 w0 S a w) :
    LeavesInM (Fr none) 0 P fn a.tmps (fun e w' => ∃ v m', e = .returned v ∧ K v m' ∧ Frame m0 w0 m' w') (⟨.fn (.func g) cap, first⟩ :: cs.map mark) u w := by
  have hbody := List.all_eq_true.1 hB _ (show g ∈ B by simpa using hg)
  have he : (first.toList ++ cap.toList).toArray = first ++ cap := by apply Array.ext'; simp
  refine ⟨hu, .inr ⟨fun h => by simp [Fr, Fence.wide] at h, .func g, cap, g, first ++ cap, rfl, run_callFunc hbody _, fun _ _ => trivial, ?_⟩⟩
  have hc := hd w hR.sub
  rw [he] at hc
  refine (CallsDIn.mono hc ?_ : CallsDIn (Fr none) (0 - 1) P g (first ++ cap) u w _)
  rintro e u1 w' ⟨v, m', rfl, rfl, hk, hF⟩
  have hR1 := frame_rel hR hF
  have hR2 : Rel ψ N ⟨cs.map mark ++ [], (cs.map fun b => (b, Obj.deferred (some []))) ++ []⟩ m0 w0 { S with m := m' } { a with defers := cs.map mark } w' := by
    rw [List.append_nil, List.append_nil]
    exact ⟨hR1.size, rfl, hR1.env, hR1.box, hR1.inj, hR1.frame, hR1.marks⟩
  show LeavesInM (Fr none) 0 P fn a.tmps _ (cs.map mark) (settle u1) w'
  rw [hset]
  have h2 := leavesG (P := P) (fn := fn) (R := fun e w' => ∃ v m', e = .returned v ∧ K v m' ∧ Frame m0 w0 m' w') (u := .returning) (by simp) cs { a with defers := cs.map mark } w' (fun w1 hR3 => by
    obtain ⟨v, hv, hk⟩ := results_sound hT hR3 (fn := fn) (K := K) hk
    exact ⟨v, hv, v, _, rfl, hk, hR3.frame⟩) hcs (fun b hb => ⟨hcb b hb, fun o h => by cases h⟩) hR2
  rw [List.append_nil] at h2
  exact h2
theorem fcalls_of_defer (hT : T.ok P = true) (hB : bodiesOk P B = true) (hm : P.follows .mixedOrders = true) {g : Nat} {fn : Func} {c0 c1 y : Code} {id : Nat} {o1 : Oper} {f : Operand} {ats : Array TypeId} {ty : TypeId} {pos : String} {after : Array Edge} {DR : List (Nat × DE)}
    (hf : P.funcs[g]? = some fn) (hb : fn.body = some (.seq c0 (.seq c1 (.seq (.region id #[o1, ⟨none, .defer ⟨.value f, #[], ats⟩, ty, pos, after, none⟩] false) y))))
    (hok : codeOk T fn.ntmps DR (.seq c0 (.seq c1 y)) = true) (ho1 : dstOk fn.ntmps o1 = true) {args : List AV} (hlen : args.length ≤ fn.ntmps) (hpl : (args.all AV.plain) = true) {m : Mem} {K : Value → Mem → Prop}
    (h : deferP P T B pr DR c0 c1 [o1, ⟨none, .defer ⟨.value f, #[], ats⟩, ty, pos, after, none⟩] o1 f y fn.results.toList K ⟨argEnv 0 args, [], m⟩) :
    FCalls P g (args.map AV.toV) m K := by
  intro w hw
  simp only [codeOk, Bool.and_eq_true] at hok
  obtain ⟨hk0, hk1, hky⟩ := hok
  refine callsIn_wide.1 (callsIn_of_wp_marks (F := Fr none) (n := 0) hf hb trivial ?_ : CallsIn Fence.wide 0 P g _ w _)
  refine wpIn_seq (vc_sound (N := fn.ntmps) hT hB hm c0 none ⟨[], []⟩ m w _ _ (.inl rfl) hk0 h _ _ w ⟨_, argEnv_start args fn.ntmps hlen hpl m w hw⟩ fun e S1 a1 w1 h1 hX1 => ?_)
  cases e with
  | normal =>
    obtain ⟨D1, he1, hR1⟩ := hX1
    refine wpIn_seq (vc_sound (N := fn.ntmps) hT hB hm c1 none D1 m w _ _ (.inl rfl) hk1 h1 _ a1 w1 hR1 fun e S2 a2 w2 h2 hX2 => ?_)
    cases e with
    | normal =>
      obtain ⟨D2, he2, ψ, hR2⟩ := hX2
      obtain ⟨cs, e1, e2, e3, e4⟩ := he1.trans he2
      obtain ⟨d1, d2⟩ := D2
      simp only [List.append_nil] at e1 e2
      subst e1 e2
      refine wpIn_seq (wpIn_region_list ?_)
      simp only [opStep_eq] at h2
      have rest : ∀ (S3 : St) (a3 : Act) (w3 : World), (evK S3 f fun x => closK x fun g vs => req (B.contains g) <| vc P T B pr DR y (doorK P T g vs fn.results.toList K) S3) →
          Rel ψ fn.ntmps ⟨cs.map mark, cs.map fun b => (b, Obj.deferred (some []))⟩ m w S3 a3 w3 → True := fun _ _ _ _ _ => trivial
      have fin : ∀ (S3 : St) (a3 : Act) (w3 : World), (evK S3 f fun x => closK x fun g vs => req (B.contains g) <| vc P T B pr DR y (doorK P T g vs fn.results.toList K) S3) →
          Relx fn.ntmps ⟨cs.map mark, cs.map fun b => (b, Obj.deferred (some []))⟩ m w S3 a3 w3 →
          wpListIn (Fr none) 0 P #[o1, ⟨none, .defer ⟨.value f, #[], ats⟩, ty, pos, after, none⟩] (Exit.then (y.wpIn (Fr none) 0 P (bodyPostM (Fr none) 0 P fn fun e w' => ∃ v m', e = .returned v ∧ K v m' ∧ Frame m w m' w')) (bodyPostM (Fr none) 0 P fn fun e w' => ∃ v m', e = .returned v ∧ K v m' ∧ Frame m w m' w')) [⟨none, .defer ⟨.value f, #[], ats⟩, ty, pos, after, none⟩] a3 w3 := by
        intro S3 a3 w3 h3 ⟨ψ3, hR3⟩
        obtain ⟨x, hx, h4⟩ := hR3.ev h3
        obtain ⟨g', first, cap, rfl, h5⟩ := closK_spec h4
        obtain ⟨hg', h6⟩ := req_spec h5
        simp only [AV.is] at hx
        simp only [wpListIn]
        rw [if_pos (by simp [Region.wanted])]
        refine ⟨fun f _ => trivial, ?_⟩
        have hsem : ((Oper.mk none (.defer ⟨.value f, #[], ats⟩) ty pos after none).semAt (Fr none).round a3.eval).run P w3 = .ok (.defer ⟨.fn (.func g') cap, first⟩) w3 := by
          show ((Oper.mk none (.defer ⟨.value f, #[], ats⟩) ty pos after none).semAt none a3.eval).run P w3 = _
          rw [Oper.semAt_none]
          simp only [execOp, resolve, hx, Deferred.ofValue, pure_bind]
          simp
        rw [hsem]
        show y.wpIn (Fr none) 0 P _ ({ a3 with defers := ⟨.fn (.func g') cap, first⟩ :: a3.defers }.put none undef) w3
        have hR4 : Rel ψ3 fn.ntmps ⟨⟨.fn (.func g') cap, first⟩ :: cs.map mark, cs.map fun b => (b, Obj.deferred (some []))⟩ m w S3 { a3 with defers := ⟨.fn (.func g') cap, first⟩ :: a3.defers } w3 :=
          ⟨hR3.size, by rw [hR3.defers], hR3.env, hR3.box, hR3.inj, hR3.frame, hR3.marks⟩
        refine vc_sound (N := fn.ntmps) hT hB hm y none _ m w _ _ (.inl rfl) hky h6 _ _ w3 ⟨ψ3, hR4⟩ fun e S5 a5 w5 h7 hX5 => ?_
        obtain ⟨D5, ⟨bs, g1, g2, g3, g4⟩, ψ5, hR5⟩ := hX5
        obtain ⟨k1, k2⟩ := D5
        simp only at g1 g2
        subst g1 g2
        have hd5 := hR5.defers
        have hcb : ∀ b, b ∈ cs → w.heap.size ≤ b := fun b hb => (e4 b hb).1
        have leave : ∀ {u u' : FrameMode}, u ≠ .run → settle u' = .returning → (DCalls P g' (first.toList ++ cap.toList) S5.m u u' fun m' => resK T ⟨S5.env, S5.ls, m'⟩ fn.results.toList fun vs => K (single vs) m') →
            LeavesInM (Fr none) 0 P fn a5.tmps (fun e w' => ∃ v m', e = .returned v ∧ K v m' ∧ Frame m w m' w') a5.defers u w5 := by
          intro u u' hu hs hD
          rw [hd5]
          refine leavesG hu bs a5 w5 (fun w6 hR6 => ?_) g3 g4 hR5
          exact door_leaves (K := K) hT hB hu hs hg' hD e3 hcb { a5 with defers := ⟨.fn (.func g') cap, first⟩ :: cs.map mark } w6 hR6
        cases e with
        | normal => exact leave (by simp) rfl h7
        | ret => exact leave (by simp) rfl h7
        | panic c =>
          obtain ⟨x, rfl, h8⟩ := h7
          exact leave (by simp) rfl h8
        | _ => exact h7.elim
      have hdo := dstOk_spec ho1
      show wpListIn (Fr none) 0 P #[o1, ⟨none, .defer ⟨.value f, #[], ats⟩, ty, pos, after, none⟩] _ [o1, ⟨none, .defer ⟨.value f, #[], ats⟩, ty, pos, after, none⟩] a2 w2
      simp only [wpListIn]
      have fin2 := fin
      simp only [wpListIn] at fin2
      rcases guard_ways (V := fun S1 => vcOpN P T B pr o1.dst o1.op o1.type S1 fun S' => evK S' f fun x => closK x fun g vs => req (B.contains g) <| vc P T B pr DR y (doorK P T g vs fn.results.toList K) S')
          (I := fun S1 => evK S1 f fun x => closK x fun g vs => req (B.contains g) <| vc P T B pr DR y (doorK P T g vs fn.results.toList K) S1) hR2 hdo h2 with ⟨S3, hw, _, _, h3, h4⟩ | ⟨S3, hw, _, _, h3, h4⟩
      · rw [if_pos hw]
        obtain ⟨dst, op, ty1, pos1, after1, guard⟩ := o1
        exact vcOp_sound hT hB h3 hdo (vcOpN_old h4) _ fun S' a' w' k1 k2 => fin2 S' a' w' k1 k2
      · rw [if_neg (by simp [hw])]
        exact ⟨fun f _ => trivial, fin2 S3 _ _ h4 ⟨ψ, h3⟩⟩
    | _ => exact h2.elim
  | _ => exact h1.elim

/-! ### a closure that recovers -/
def plainCode (N : Nat) : Code → Bool
  | .skip => true
  | .region _ ops false => ops.toList.all (dstOk N)
  | .seq x y => plainCode N x && plainCode N y
  | .cond _ x y => plainCode N x && plainCode N y
  | .ret => true
  | _ => false
/-- Code without loops: no marks. -/
theorem vc_plain (hT : T.ok P = true) (hB : bodiesOk P B = true) {DR : List (Nat × DE)} : ∀ (c : Code) (K : Exit → St → Prop) (S : St) (Q : Exit → Act → World → Prop) (a : Act) (w : World), plainCode N c = true → vc P T B pr DR c K S →
    Relx N D m0 w0 S a w → (∀ e S' a' w', K e S' → Relx N D m0 w0 S' a' w' → Q e a' w') → c.wpIn (Fr none) 0 P Q a w := by
  intro c
  induction c with
  | skip => intro K S Q a w _ h hR hK; exact wpIn_skip (hK _ _ _ _ h hR)
  | ret => intro K S Q a w _ h hR hK; exact wpIn_ret (hK _ _ _ _ h hR)
  | region id ops draw =>
    intro K S Q a w hc h hR hK
    cases draw with
    | true => simp [plainCode] at hc
    | false =>
      simp only [plainCode] at hc
      simp only [vc_region] at h
      have : wpListIn (Fr none) 0 P ops.toList.toArray Q ops.toList a w := by
        cases hpr : panReg pr ops.toList with
        | true =>
          rw [hpr] at h
          exact vcOpsP_sound (r := none) (Q := Q) hT hB ops.toList ops.toList S a w K hc h hR (fun S' a' w' h1 h2 => hK _ _ _ _ h1 h2) (fun c S' a' w' h1 h2 => hK _ _ _ _ h1 h2)
        | false =>
          rw [hpr] at h
          exact vcOps_sound (r := none) (Q := Q) hT hB ops.toList ops.toList S a w _ hc h hR (fun S' a' w' h1 h2 => hK _ _ _ _ h1 h2)
      exact wpIn_region_list (ops := ops) (id := id) (F := Fr none) (n := 0) (P := P) (Q := Q) (a := a) (w := w) (by simpa using this)
  | seq x y ihx ihy =>
    intro K S Q a w hc h hR hK
    simp only [plainCode, Bool.and_eq_true] at hc
    simp only [vc_seq] at h
    cases hj : joinAt DR x with
    | true =>
      rw [hj] at h
      simp only [cond_true, JoinP] at h
      obtain ⟨J, h1, h2⟩ := h
      refine wpIn_seq (ihx _ S _ a w hc.1 h1 hR fun e S' a' w' hk hR' => ?_)
      cases e with
      | normal =>
        obtain ⟨S1, hle, hJ⟩ := hk
        obtain ⟨ψ', hR'⟩ := hR'
        exact ihy K S1 Q a' w' hc.2 (h2 S1 hJ) ⟨ψ', hR'.le hle⟩ hK
      | _ => exact hK _ _ _ _ hk hR'
    | false =>
      rw [hj] at h
      simp only [cond_false] at h
      refine wpIn_seq (ihx _ S _ a w hc.1 h hR fun e S' a' w' hk hR' => ?_)
      cases e with
      | normal => exact ihy K S' Q a' w' hc.2 hk hR' hK
      | _ => exact hK _ _ _ _ hk hR'
  | cond o x y ihx ihy =>
    intro K S Q a w hc h hR hK
    simp only [plainCode, Bool.and_eq_true] at hc
    simp only [vc_cond] at h
    obtain ⟨ψ, hR⟩ := hR
    obtain ⟨v, hv, h1⟩ := hR.ev h
    split at h1
    · rename_i b
      simp only [AV.is] at hv
      cases b with
      | true => exact wpIn_cond_true hv (ihx K S Q a w hc.1 h1 ⟨ψ, hR⟩ hK)
      | false => exact wpIn_cond_false hv (ihy K S Q a w hc.2 h1 ⟨ψ, hR⟩ hK)
    · exact h1.elim
  | _ => intro K S Q a w hc; simp [plainCode] at hc
/-- What recover hands back, and the mode behind it. -/
def recV : FrameMode → Value × FrameMode
  | .panicking ({ v, recovered := false, goexit := false } :: older) => (v, .panicking ({ v, recovered := true } :: older))
  | u => (.nilIface, u)
theorem wpOpsSIn_rec {ops : Array Oper} {Q : Exit → Act → List Go.Frame → World → Prop} {cs : List Go.Frame} {i : Nat} {rest : List Nat} {o : Oper} (ho : ops[i]? = some o) (hg : o.guard = none) (hr : (execOp a.eval o).run P w = .ok .recover w)
    (h : match recoverD cs with
      | some (v, cs') => wpOpsSIn (Fr none) 0 P ops Q rest (a.put o.dst v) cs' w
      | none => wpOpsSIn (Fr none) 0 P ops Q rest (a.put o.dst .nilIface) cs w) : wpOpsSIn (Fr none) 0 P ops Q (i :: rest) a cs w := by
  simp only [wpOpsSIn, ho]
  refine ⟨fun f _ => trivial, ?_⟩
  rw [if_pos (by simp [Region.wanted, hg]), hr]
  exact h
theorem wpOpsSIn_val {ops : Array Oper} {Q : Exit → Act → List Go.Frame → World → Prop} {cs : List Go.Frame} {i : Nat} {rest : List Nat} {o : Oper} (ho : ops[i]? = some o) (hg : o.guard = none) (hr : (execOp a.eval o).run P w = .ok (.value v) w)
    (h : wpOpsSIn (Fr none) 0 P ops Q rest (a.put o.dst v) cs w) : wpOpsSIn (Fr none) 0 P ops Q (i :: rest) a cs w := by
  simp only [wpOpsSIn, ho]
  refine ⟨fun f _ => trivial, ?_⟩
  rw [if_pos (by simp [Region.wanted, hg]), hr]
  exact h
theorem dcalls_of_recover (hT : T.ok P = true) (hB : bodiesOk P B = true) {g : Nat} {fn : Func} {y : Code} {id d d2 : Nat} {ats : Array TypeId} {ty ty2 : TypeId} {pos pos2 : String} {after after2 : Array Edge} {DR : List (Nat × DE)}
    (hf : P.funcs[g]? = some fn) (hb : fn.body = some (.seq (.region id #[⟨some d, .call ⟨.builtin .recover, #[], ats⟩, ty, pos, after, none⟩, ⟨some d2, .assign (.tmp d), ty2, pos2, after2, none⟩] false) y))
    (hok : plainCode fn.ntmps y = true) (hr : fn.results = #[]) (hd : d < fn.ntmps) (hd2 : d2 < fn.ntmps) {args : List AV} (hlen : args.length ≤ fn.ntmps) (hpl : (args.all AV.plain) = true) {m : Mem} {u : FrameMode} {K : Mem → Prop}
    (h : vc P T B pr DR y (fun e S => match e with | .normal | .ret => K S.m | _ => False) ⟨(d2, .v (recV u).1) :: (d, .v (recV u).1) :: argEnv 0 args, [], m⟩) :
    DCalls P g (args.map AV.toV) m u (recV u).2 K := by
  intro w hw
  refine callsDIn_of_wpSIn hf hb trivial fun c₀ cs hu => wpSIn_seq (wpSIn_region ?_)
  have hR0 := argEnv_start args fn.ntmps hlen hpl m w hw
  generalize ({ tmps := (args.map AV.toV).toArray ++ Array.replicate (fn.ntmps - (args.map AV.toV).toArray.size) undef, defers := [] } : Act) = a0 at hR0 ⊢
  have hR1 : Rel (fun i => i) fn.ntmps ⟨[], []⟩ m w ⟨(d, .v (recV u).1) :: argEnv 0 args, [], m⟩ (a0.put (some d) (recV u).1) w := by
    have := hR0.put (d := some d) (x := .v (recV u).1) (v := (recV u).1) rfl (fun i hi => by cases hi; exact hd)
    exact this
  have hR2 : Rel (fun i => i) fn.ntmps ⟨[], []⟩ m w ⟨(d2, .v (recV u).1) :: (d, .v (recV u).1) :: argEnv 0 args, [], m⟩ ((a0.put (some d) (recV u).1).put (some d2) ((a0.put (some d) (recV u).1).eval (.tmp d))) w := by
    have he := hR1.env d (.v (recV u).1) (by simp [lk])
    exact hR1.put (d := some d2) (x := .v (recV u).1) he (fun i hi => by cases hi; exact hd2)
  have hassign : ∀ (b : Act), (execOp b.eval ⟨some d2, .assign (.tmp d), ty2, pos2, after2, none⟩).run P w = .ok (.value (b.eval (.tmp d))) w := fun b => rfl
  have hrec : ∀ (b : Act), (execOp b.eval ⟨some d, .call ⟨.builtin .recover, #[], ats⟩, ty, pos, after, none⟩).run P w = .ok .recover w := fun b => rfl
  have htail : ∀ cs', (∃ u', cs' = { c₀ with mode := u' } :: cs ∧ u' = (recV u).2) →
      y.wpSIn (Fr none) 0 P (bodyPostS P fn c₀ cs fun e u1 w' => ∃ v m', e = .returned v ∧ u1 = (recV u).2 ∧ K m' ∧ Frame m w m' w') ((a0.put (some d) (recV u).1).put (some d2) ((a0.put (some d) (recV u).1).eval (.tmp d))) cs' w := by
    rintro cs' ⟨u', rfl, rfl⟩
    refine wpSIn_of_wpIn rfl (vc_plain (D := ⟨[], []⟩) (m0 := m) (w0 := w) hT hB y _ _ _ _ w hok h ⟨_, hR2⟩ fun e S' a' w' hk ⟨ψ, hR⟩ => ?_)
    have hres : (results fn a'.tmps).run P w' = .ok (.tuple #[]) w' := by
      simp [results, hr]
    cases e with
    | normal => exact ⟨hR.defers, _, rfl, _, hres, _, _, rfl, rfl, hk, hR.frame⟩
    | ret => exact ⟨hR.defers, _, rfl, _, hres, _, _, rfl, rfl, hk, hR.frame⟩
    | _ => exact hk.elim
  have hl : (List.range (#[(⟨some d, .call ⟨.builtin .recover, #[], ats⟩, ty, pos, after, none⟩ : Oper), ⟨some d2, .assign (.tmp d), ty2, pos2, after2, none⟩] : Array Oper).size) = [0, 1] := rfl
  rw [hl]
  have step2 : ∀ cs', (∃ u', cs' = { c₀ with mode := u' } :: cs ∧ u' = (recV u).2) → wpOpsSIn (Fr none) 0 P #[(⟨some d, .call ⟨.builtin .recover, #[], ats⟩, ty, pos, after, none⟩ : Oper), ⟨some d2, .assign (.tmp d), ty2, pos2, after2, none⟩]
      (Exit.thenS (y.wpSIn (Fr none) 0 P (bodyPostS P fn c₀ cs fun e u1 w' => ∃ v m', e = .returned v ∧ u1 = (recV u).2 ∧ K m' ∧ Frame m w m' w')) (bodyPostS P fn c₀ cs fun e u1 w' => ∃ v m', e = .returned v ∧ u1 = (recV u).2 ∧ K m' ∧ Frame m w m' w')) [1] (a0.put (some d) (recV u).1) cs' w := by
    intro cs' hcs
    exact wpOpsSIn_val (i := 1) rfl rfl (hassign _) (htail cs' hcs)
  refine wpOpsSIn_rec (i := 0) rfl rfl (hrec _) ?_
  subst hu
  unfold recoverD
  simp only
  split
  · rename_i v cs' heq
    split at heq
    · rename_i v' older hmode
      simp only [Option.some.injEq, Prod.mk.injEq] at heq
      obtain ⟨rfl, rfl⟩ := heq
      have h1 : (recV c₀.mode).1 = v' := by rw [hmode]; rfl
      have := step2 ({ c₀ with mode := .panicking ({ v := v', recovered := true } :: older) } :: cs) ⟨_, rfl, by rw [hmode]; rfl⟩
      rw [h1] at this
      exact this
    · cases heq
  · rename_i heq
    split at heq
    · cases heq
    · rename_i hno
      have h1 : recV c₀.mode = (.nilIface, c₀.mode) := by
        unfold recV
        split
        · rename_i v older hmode
          exact absurd hmode (hno v older)
        · rfl
      have h2 : (recV c₀.mode).1 = .nilIface := by rw [h1]
      have := step2 (c₀ :: cs) ⟨c₀.mode, rfl, by rw [h1]⟩
      rw [h2] at this
      exact this
end
end Go.Mv
/- Code: the library's functions as contracts over memory: Split, Cut, Join, Trim, Itoa, Atoi, toError. -/
namespace Go.Proofs.YtfjbgmeimipibaaGreatDoor
open Go Go.Mv
set_option maxHeartbeats 1000000
set_option maxRecDepth 10000
set_option linter.unusedVariables false
set_option linter.unusedSimpArgs false
/-- What the package-level variables hold. -/
structure Gl (m : Mem) : Prop where
  mx : ∃ x, m.cell ⟨0, 0, none⟩ = some (.int .i64 x)
  pow : ∃ e f, m 1 = some (.cells (Lib.pow10Tab.map fun z => Value.int .u64 z).toArray e f)
  es : ∃ v, m.cell ⟨2, 0, none⟩ = some v ∧ (v = .nilIface ∨ ∃ te pe, v = .iface te pe)
theorem Gl.more {m m' : Mem} (h : Gl m) (hm : m.le m') : Gl m' :=
  ⟨let ⟨x, hx⟩ := h.mx; ⟨x, Mem.le_cell hm hx⟩, let ⟨e, f, hx⟩ := h.pow; ⟨e, f, hm _ _ hx⟩, let ⟨v, hv, hx⟩ := h.es; ⟨v, Mem.le_cell hm hv, hx⟩⟩
theorem Frame.below {m : Mem} {w w' : World} (hw : m.sub w) (h : RowKit.Below w.heap.size w w') : Mv.Frame m w m w' :=
  ⟨h.os, ⟨h.tape, .inr trivial⟩, h.output, h.size, fun b o hb => by rw [h.block b (Mem.sub_lt hw (by rw [hb]; simp))]; exact hw b o hb, fun b hb _ => h.block b hb, fun b hb => .inl hb⟩
theorem fc_below {f : FuncId} {args : List Value} {m : Mem} {v : Value} (h : ∀ w, m.sub w → Calls Tryz.prog f args.toArray w fun e w' => e = .returned v ∧ RowKit.Below w.heap.size w w') : FCalls Tryz.prog f args m fun u m' => u = v ∧ m' = m :=
  fun w hw => (h w hw).mono fun e w' ⟨he, hb⟩ => ⟨v, m, he, ⟨rfl, rfl⟩, Frame.below hw hb⟩
theorem below_drewN (w : World) (n : Nat) : RowKit.Below w.heap.size w (w.drewN n) := ⟨rfl, rfl, rfl, Nat.le_refl _, fun _ _ => rfl⟩
theorem below_grow (w : World) (n : Nat) (os : Array Obj) : RowKit.Below w.heap.size w (Sort.grow (w.drewN n) os) :=
  ⟨rfl, rfl, rfl, by simp [Sort.grow], fun k hk => by simp only [Sort.grow]; exact Array.getElem?_append_left hk⟩
theorem below_bytes (w : World) (e : TypeId) (t : ByteArray) : RowKit.Below w.heap.size w (Lib.bytesWorld w e t) :=
  ⟨by simp [Lib.bytesWorld, World.freeze, World.alloc, World.drew, -World.alloc_eq, -World.drew_eq], by simp [Lib.bytesWorld, World.freeze, World.alloc, World.drew, -World.alloc_eq, -World.drew_eq],
   by simp [Lib.bytesWorld, World.freeze, World.alloc, World.drew, -World.alloc_eq, -World.drew_eq], by rw [Lib.bytesWorld_size]; omega, fun b hb => Lib.bytesWorld_at_old w e t b hb⟩
/-- A text as a value. -/
def str (l : List UInt8) : Value := .string ⟨l.toArray⟩
theorem str_eq (s : ByteArray) : Value.string s = str s.data.toList := by simp [str]
/-- The parts of a text between the bytes c. -/
def splitL (c : UInt8) : List UInt8 → List (List UInt8)
  | [] => [[]]
  | b :: r => if b = c then [] :: splitL c r else match splitL c r with
    | [] => [[b]]
    | x :: xs => (b :: x) :: xs
theorem splitL_ne {c : UInt8} : ∀ l : List UInt8, splitL c l ≠ []
  | [] => by simp [splitL]
  | b :: r => by
    unfold splitL
    split
    · simp
    · cases h : splitL c r <;> simp
theorem splitL_miss {c : UInt8} : ∀ {l : List UInt8}, c ∉ l → splitL c l = [l]
  | [], _ => rfl
  | b :: r, h => by
    simp only [List.mem_cons, not_or] at h
    rw [splitL, if_neg (fun e => h.1 e.symm), splitL_miss h.2]
theorem splitL_hit {c : UInt8} : ∀ {x r : List UInt8}, c ∉ x → splitL c (x ++ c :: r) = x :: splitL c r
  | [], r, _ => by simp [splitL]
  | b :: x, r, h => by
    simp only [List.mem_cons, not_or] at h
    rw [List.cons_append, splitL, if_neg (fun e => h.1 e.symm), splitL_hit h.2]
theorem splitL_len {c : UInt8} : ∀ l : List UInt8, (splitL c l).length = l.count c + 1
  | [] => rfl
  | b :: r => by
    have ih := splitL_len (c := c) r
    unfold splitL
    split
    · rename_i h; subst h; simp [ih]
    · rename_i h
      cases hs : splitL c r with
      | nil => exact absurd hs (splitL_ne r)
      | cons x xs =>
        rw [hs] at ih
        rw [List.count_cons_of_ne (by simpa using h)]
        simpa using ih
theorem splitK_L (c : UInt8) : ∀ (k : Nat) (l : List UInt8), l.count c = k → Lib.splitK [c] 0 k l = splitL c l
  | 0, l, h => by
    rw [splitL_miss (by simpa [List.count_eq_zero] using h)]
    rfl
  | k + 1, l, h => by
    have hm : c ∈ l := List.count_pos_iff.1 (by omega)
    have hi : Lib.index l [c] ≠ -1 := by
      rw [Lib.index_one]
      intro he
      obtain ⟨j, hj⟩ := List.getElem?_of_mem hm
      exact Lib.indexByte_none he j hj
    have hge := Lib.index_ge l [c]
    obtain ⟨i, hi⟩ : ∃ i : Nat, Lib.index l [c] = i := ⟨(Lib.index l [c]).toNat, by omega⟩
    have h2 := hi
    rw [Lib.index_one] at h2
    obtain ⟨h3, h4⟩ := Lib.indexByte_some h2
    have hlt := (List.getElem?_eq_some_iff.1 h3).1
    have hl : l = l.take i ++ c :: l.drop (i + 1) := by
      have : l.drop i = c :: l.drop (i + 1) := by
        rw [List.drop_eq_getElem_cons hlt]
        congr 1
        exact (List.getElem?_eq_some_iff.1 h3).2
      rw [← this, List.take_append_drop]
    have hn : c ∉ l.take i := by
      intro hc
      obtain ⟨j, hj⟩ := List.getElem?_of_mem hc
      rw [List.getElem?_take] at hj
      split at hj
      · exact h4 j (by assumption) hj
      · cases hj
    have hcnt : (l.drop (i + 1)).count c = k := by
      rw [hl, List.count_append, List.count_eq_zero.2 hn] at h
      simp at h
      omega
    have hs : splitL c l = l.take i :: splitL c (l.drop (i + 1)) := by
      conv => lhs; rw [hl]
      exact splitL_hit hn
    rw [hs, ← splitK_L c k _ hcnt]
    rw [Lib.splitK]
    rw [hi, if_neg (by simp)]
    simp
theorem split_c {m : Mem} (hg : Gl m) {l : List UInt8} {c : UInt8} (hl : l.length < 4294967281) : FCalls Tryz.prog 65 [str l, str [c]] m fun v m' =>
    ∃ b, m b = none ∧ v = .slice (some ⟨b, 0, none⟩) (splitL c l).length (splitL c l).length ∧ m' = m.set b (.cells ((splitL c l).map str).toArray 9 (0, 0)) := by
  intro w hw
  obtain ⟨x, hx⟩ := hg.mx
  have h := Any.strings_Split Tryz.lays146 (by kernel_rfl) ⟨l.toArray⟩ ⟨#[c]⟩ x w (by simpa [ByteArray.size] using hl) (Mem.sub_cell hw hx) (Nat.le_refl 1)
  have hlen : Lib.countB ⟨l.toArray⟩ ⟨#[c]⟩ = l.count c := by
    simp only [Lib.countB]
    exact Lib.count_one c l
  have hwords : (Lib.splitB ⟨#[c]⟩ 0 (l.count c) ⟨l.toArray⟩).map Value.string = (splitL c l).map str := by
    have h1 := Lib.splitB_data ⟨#[c]⟩ 0 (l.count c) ⟨l.toArray⟩
    have h2 : Lib.splitK [c] 0 (l.count c) l = splitL c l := splitK_L c _ l rfl
    have h3 : (Lib.splitB ⟨#[c]⟩ 0 (l.count c) ⟨l.toArray⟩).map (·.data.toList) = splitL c l := h1.trans h2
    rw [← h3, List.map_map]
    refine congrArg (fun f => List.map f _) (funext fun s => ?_)
    exact str_eq s
  rw [hlen] at h
  rw [hwords] at h
  refine h.mono fun e w' ⟨he, hw'⟩ => ⟨_, _, he, ⟨w.heap.size, ?_, by rw [splitL_len], rfl⟩, ?_⟩
  · cases hm : m w.heap.size with
    | none => rfl
    | some o => exact absurd (Mem.sub_lt hw (b := w.heap.size) (by rw [hm]; simp)) (Nat.lt_irrefl _)
  · rw [hw']
    exact (Mv.Frame.refl hw).alloc _
/-- What stands ahead of the first c, and behind it. -/
def cutL (c : UInt8) (l : List UInt8) : List UInt8 × List UInt8 × Bool := if c ∈ l then (l.takeWhile (· ≠ c), (l.dropWhile (· ≠ c)).drop 1, true) else (l, [], false)
theorem cut_L (c : UInt8) : ∀ l : List UInt8, Lib.cut l [c] = cutL c l := by
  intro l
  unfold Lib.cut cutL
  rw [Lib.index_one]
  by_cases hm : c ∈ l
  · have hi : Lib.indexByte l c ≠ -1 := by
      intro he
      obtain ⟨j, hj⟩ := List.getElem?_of_mem hm
      exact Lib.indexByte_none he j hj
    have hge := Lib.indexByte_ge l c
    obtain ⟨i, hi⟩ : ∃ i : Nat, Lib.indexByte l c = i := ⟨(Lib.indexByte l c).toNat, by omega⟩
    obtain ⟨h3, h4⟩ := Lib.indexByte_some hi
    have hlt := (List.getElem?_eq_some_iff.1 h3).1
    have hdr : l.drop i = c :: l.drop (i + 1) := by
      rw [List.drop_eq_getElem_cons hlt]
      congr 1
      exact (List.getElem?_eq_some_iff.1 h3).2
    have hl : l = l.take i ++ c :: l.drop (i + 1) := by rw [← hdr, List.take_append_drop]
    have hn : ∀ b ∈ l.take i, b ≠ c := by
      intro b hb he
      subst he
      obtain ⟨j, hj⟩ := List.getElem?_of_mem hb
      rw [List.getElem?_take] at hj
      split at hj
      · exact h4 j (by assumption) hj
      · cases hj
    rw [hi, if_pos (by omega), if_pos hm]
    have e1 : l.takeWhile (· ≠ c) = l.take i := by
      conv => lhs; rw [hl]
      rw [List.takeWhile_append_of_pos (by simpa using hn)]
      simp
    have e2 : l.dropWhile (· ≠ c) = c :: l.drop (i + 1) := by
      conv => lhs; rw [hl]
      rw [List.dropWhile_append_of_pos (by simpa using hn)]
      simp
    rw [e1, e2]
    simp
  · have hi : Lib.indexByte l c = -1 := by
      cases Int.decEq (Lib.indexByte l c) (-1) with
      | isTrue h => exact h
      | isFalse h =>
        have hge := Lib.indexByte_ge l c
        obtain ⟨i, hi⟩ : ∃ i : Nat, Lib.indexByte l c = i := ⟨(Lib.indexByte l c).toNat, by omega⟩
        exact absurd (List.mem_of_getElem? (Lib.indexByte_some hi).1) hm
    rw [hi, if_neg (by omega), if_neg hm]
theorem cut_c {m : Mem} (hg : Gl m) {l : List UInt8} {c : UInt8} (hl : l.length < 4294967281) : FCalls Tryz.prog 46 [str l, str [c]] m fun v m' => v = .tuple #[str (cutL c l).1, str (cutL c l).2.1, .bool (cutL c l).2.2] ∧ m' = m := by
  obtain ⟨x, hx⟩ := hg.mx
  refine fc_below fun w hw => (Any.strings_Cut Tryz.lays145 ⟨l.toArray⟩ ⟨#[c]⟩ x w (by simpa [ByteArray.size] using hl) (Mem.sub_cell hw hx)).mono fun e w' ⟨he, n, hn⟩ => ⟨?_, hn ▸ below_drewN w n⟩
  rw [he]
  have : Lib.cut (⟨l.toArray⟩ : ByteArray).data.toList (⟨#[c]⟩ : ByteArray).data.toList = cutL c l := cut_L c l
  rw [this]
  rfl
theorem Tryz.Builder_Extra_156 : Builder.Extra Tryz.prog Tryz.lays156_ren := {
  sizeBuilder := by kernel_rfl
  liesBuilder := by kernel_rfl
  t5 := Tryz.underlying5
  a5 := Tryz.isAgg5
  z5 := Tryz.sizeOf5
  v5 := Tryz.zeroValue5
  infoByte := by kernel_rfl
  cellsByte := by kernel_rfl
  sizeByte := by kernel_rfl
  neB5 := by decide }
/-- Texts with a text between them. -/
def joinL (sep : List UInt8) : List (List UInt8) → List UInt8
  | [] => []
  | [x] => x
  | x :: y :: r => x ++ sep ++ joinL sep (y :: r)
theorem join_L (sep : List UInt8) : ∀ xs : List (List UInt8), Lib.join xs sep = joinL sep xs
  | [] => rfl
  | [x] => by rw [Lib.join_one]; rfl
  | x :: y :: r => by
    have ih := join_L sep (y :: r)
    rw [Lib.join_cons] at ih ⊢
    rw [joinL, ← ih]
    simp [Lib.joinTail]
theorem join_c {m : Mem} {A : Option Addr} {c : Nat} {xs : List (List UInt8)} {sep : List UInt8} (hr : Rd m A (xs.map str)) (hc : xs.length ≤ c) (hN : xs.length ≤ 140737488355328) (hl : (joinL sep xs).length ≤ 140737488355328) (hs : ∀ p, A = some p → p.spot = none) :
    FCalls Tryz.prog 60 [.slice A xs.length c, str sep] m fun v m' => v = str (joinL sep xs) ∧ m' = m := by
  cases xs with
  | nil =>
    refine fc_below fun w hw => (Any.strings_Join_none Tryz.lays156 Tryz.Builder_Extra_156 A c ⟨sep.toArray⟩ w).mono fun e w' ⟨he, hn⟩ => ⟨he, hn ▸ RowKit.Below.refl _ _⟩
  | cons x r =>
    rcases hr with hr | ⟨p, hp, hr⟩
    · simp at hr
    · subst hp
      obtain ⟨b, o, sp⟩ := p
      obtain rfl : sp = none := hs _ rfl
      have e0 : ((x :: r).map fun l => (⟨l.toArray⟩ : ByteArray)).map (·.data.toList) = x :: r := by
        rw [List.map_map]
        conv => rhs; rw [← List.map_id (x :: r)]
        congr 1
      refine fc_below fun w hw => ?_
      have h := Any.strings_Join Tryz.lays156 Tryz.Builder_Extra_156 b o c ((x :: r).map fun l => (⟨l.toArray⟩ : ByteArray)) ⟨sep.toArray⟩ w (fun j y hj => ?_) ?_ (by simpa using hN) (by simpa using hc) ?_
      · rw [e0] at h
        simp only [List.length_map] at h
        refine h.mono fun e w' ⟨he, hb⟩ => ⟨?_, hb⟩
        rw [he]
        have : Lib.join (x :: r) (⟨sep.toArray⟩ : ByteArray).data.toList = joinL sep (x :: r) := join_L sep _
        rw [this]
        rfl
      · simp only [List.getElem?_map, Option.map_eq_some_iff] at hj
        obtain ⟨l, hl, rfl⟩ := hj
        have := hr j (str l) (by rw [List.getElem?_map, hl]; rfl)
        have h2 := Mem.sub_cell hw this
        rw [show (⟨b, o, none⟩ : Addr).add j = ⟨b, o + j, none⟩ from add_mk b o j] at h2
        exact h2
      · have h0 := hr 0 (str x) (by simp)
        have := Mem.sub_lt hw (Mem.cell_dom h0)
        rw [show (⟨b, o, none⟩ : Addr).add 0 = ⟨b, o + 0, none⟩ from add_mk b o 0] at this
        exact this
      · rw [e0]
        have : Lib.join (x :: r) (⟨sep.toArray⟩ : ByteArray).data.toList = joinL sep (x :: r) := join_L sep _
        rw [this]
        exact hl
theorem trim_c {m : Mem} {l cs : List UInt8} (hl : l.length ≤ 9223372036854775807) (hcs : cs.length < 4294967281) (ha : cs.all (fun b => decide (b.toNat < 128)) = true) : FCalls Tryz.prog 78 [str l, str cs] m fun v m' => v = str (Lib.trimS l cs) ∧ m' = m :=
  fc_below fun w hw => (Any.strings_Trim_laid Tryz.lays160 (by kernel_rfl) ⟨l.toArray⟩ ⟨cs.toArray⟩ w (by simpa [ByteArray.size] using hl) (by simpa [ByteArray.size] using hcs) (fun j b hb => ascii_of_all ha j b (by simpa using hb))).mono fun e w' ⟨he, hb⟩ => ⟨he, hb⟩
theorem pow_is {m : Mem} (hg : Gl m) {w : World} (hw : m.sub w) : Lib.TabIs Tryz.prog w "internal/strconv.uint64pow10" .u64 Lib.pow10Tab := by
  obtain ⟨e, f, h⟩ := hg.pow
  have hn : Tryz.prog.globalNamed "internal/strconv.uint64pow10" = some 1 := by kernel_rfl
  unfold Lib.TabIs World.var?
  rw [hn]
  simp only [Option.bind_some, hw _ _ h]
theorem itoa_c {m : Mem} (hg : Gl m) {n : Int} (h0 : -9223372036854775808 ≤ n) (h1 : n ≤ 9223372036854775807) : FCalls Tryz.prog 39 [.int .i64 n] m fun v m' => v = str (Lib.itoa n) ∧ m' = m :=
  fc_below fun w hw => (Any.strconv_Itoa Tryz.laysM171 n h0 h1 w (pow_is hg hw)).mono fun e w' ⟨he, k, os, hk⟩ => ⟨he, hk ▸ below_grow w k os⟩
theorem atoi_c {m : Mem} {l : List UInt8} {n : Int} (hl : l.length ≤ 18) (h : Lib.atoi l = some n) : FCalls Tryz.prog 79 [str l] m fun v m' => v = .tuple #[.int .i64 n, .nilIface] ∧ m' = m :=
  fc_below fun w hw => (Any.strconv_Atoi Tryz.lays172 ⟨l.toArray⟩ n (by simpa [ByteArray.size] using hl) h w).mono fun e w' ⟨he, t, ht⟩ => ⟨he, ht ▸ below_bytes w _ t⟩
theorem toError_c {m : Mem} (hg : Gl m) {fn l : List UInt8} {base bits : Int} (hl : l.length ≤ 281474976710656) : FCalls Tryz.prog 101 [str fn, str l, .int .i64 base, .int .i64 bits, .iface 161 (.int .i64 2)] m fun v m' => (∃ u, v = .iface 164 u) ∧ m' = m := by
  obtain ⟨ev, h1, h2⟩ := hg.es
  exact fun w hw => (Any.strconv_toError_syntax Tryz.laysC245 ⟨fn.toArray⟩ ⟨l.toArray⟩ base bits ev w (by simpa [ByteArray.size] using hl) (Mem.sub_cell hw h1) h2).mono fun e w' ⟨N, he, _, _, hb⟩ => ⟨_, m, he, ⟨⟨_, rfl⟩, rfl⟩, Frame.below hw hb⟩
end Go.Proofs.YtfjbgmeimipibaaGreatDoor
/- Sets of bytes: four words of 64 bits each, bit by bit. -/
namespace Go.Proofs.YtfjbgmeimipibaaGreatDoor
open Go Go.Mv
set_option linter.unusedVariables false
set_option linter.unusedSimpArgs false
/-- Rows that a loop fills. -/
def upd {α : Type} (F G : Nat → α) (i n : Nat) : List α := (List.range n).map fun k => if k < i then G k else F k
theorem upd_len {α : Type} (F G : Nat → α) (i n : Nat) : (upd F G i n).length = n := by simp [upd]
theorem upd_at {α : Type} {F G : Nat → α} {i j n : Nat} {d : α} (h : j < n) : (upd F G i n).getD j d = if j < i then G j else F j := by simp [upd, List.getD, h]
theorem upd_zero {α : Type} {F G : Nat → α} {n : Nat} : upd F G 0 n = (List.range n).map F := by simp [upd]
theorem upd_all {α : Type} {F G : Nat → α} {n : Nat} : upd F G n n = (List.range n).map G := by
  apply List.map_congr_left
  intro k hk
  rw [if_pos (List.mem_range.1 hk)]
theorem upd_set {α : Type} {F G : Nat → α} {i n : Nat} {x : α} (h : x = G i) : (upd F G i n).set i x = upd F G (i + 1) n := by
  subst h
  apply List.ext_getElem
  · simp [upd]
  · intro k h1 h2
    simp only [upd, List.getElem_set, List.getElem_map, List.getElem_range]
    by_cases hk : i = k
    · subst hk; simp
    · rw [if_neg hk]
      by_cases h3 : k < i
      · rw [if_pos h3, if_pos (by omega)]
      · rw [if_neg h3, if_neg (by omega)]
theorem upd_skip {α : Type} {F G : Nat → α} {i n : Nat} (h : F i = G i) : upd F G i n = upd F G (i + 1) n := by
  apply List.map_congr_left
  intro k hk
  by_cases h3 : k < i
  · rw [if_pos h3, if_pos (by omega)]
  · rw [if_neg h3]
    by_cases h4 : k = i
    · rw [if_pos (by omega), h4, h]
    · rw [if_neg (by omega)]
/-- Four words. -/
abbrev W (G : Nat → Nat) : List Int := (List.range 4).map fun k => ((G k : Nat) : Int)
abbrev wv (G : Nat → Nat) : Value := .agg (intCells .u64 (W G)).toArray
def WOk (G : Nat → Nat) : Prop := ∀ k, k < 4 → G k < 18446744073709551616
def has (G : Nat → Nat) (b : Nat) : Bool := (G (b / 64)).testBit (b % 64)
theorem W_at {G : Nat → Nat} {k : Nat} (h : k < 4) : (W G).getD k 0 = ((G k : Nat) : Int) := by simp [List.getD, h]
theorem W_len {G : Nat → Nat} : (W G).length = 4 := by simp
theorem W_congr {G H : Nat → Nat} (h : ∀ k, k < 4 → G k = H k) : W G = W H := by
  apply List.map_congr_left
  intro k hk
  rw [h k (List.mem_range.1 hk)]
theorem word_eq {x y : Nat} (hx : x < 18446744073709551616) (hy : y < 18446744073709551616) (h : ∀ i, i < 64 → x.testBit i = y.testBit i) : x = y := by
  apply Nat.eq_of_testBit_eq
  intro i
  by_cases hi : i < 64
  · exact h i hi
  · have h2 : 2 ^ 64 ≤ 2 ^ i := Nat.pow_le_pow_right (by omega) (by omega)
    rw [Nat.testBit_lt_two_pow (by omega), Nat.testBit_lt_two_pow (by omega)]
theorem W_ext {G H : Nat → Nat} (hG : WOk G) (hH : WOk H) (h : ∀ b, b < 256 → has G b = has H b) : W G = W H := by
  refine W_congr fun k hk => word_eq (hG k hk) (hH k hk) fun i hi => ?_
  have := h (64 * k + i) (by omega)
  unfold has at this
  rwa [show (64 * k + i) / 64 = k by omega, show (64 * k + i) % 64 = i by omega] at this
/-- A set, told by its bytes. -/
def Is (v : Value) (f : Nat → Bool) : Prop := ∃ G, v = wv G ∧ WOk G ∧ ∀ b, b < 256 → has G b = f b
theorem Is.eq {u v : Value} {f g : Nat → Bool} (h : Is u f) (k : Is v g) (he : ∀ b, b < 256 → f b = g b) : u = v := by
  obtain ⟨G, rfl, h1, h2⟩ := h
  obtain ⟨H, rfl, k1, k2⟩ := k
  unfold wv
  rw [W_ext h1 k1 fun b hb => by rw [h2 b hb, k2 b hb, he b hb]]
/-! ### words -/
def flip64 (x : Nat) : Nat := 18446744073709551615 ^^^ x
theorem xor_flip {x : Nat} (h : x < 18446744073709551616) : bits .xor .u64 (if IntKind.u64.signed = true then -1 else IntKind.u64.max) ((x : Nat) : Int) = ((flip64 x : Nat) : Int) := by
  show bits .xor .u64 ((18446744073709551615 : Nat) : Int) _ = _
  rw [u64_xor_nat _ _ (by omega) h]
  rfl
theorem flip_lt {x : Nat} (h : x < 18446744073709551616) : flip64 x < 18446744073709551616 := Nat.xor_lt_two_pow (n := 64) (by omega) (by omega)
theorem flip_bit {x i : Nat} (hi : i < 64) : (flip64 x).testBit i = !x.testBit i := by
  unfold flip64
  rw [Nat.testBit_xor, show (18446744073709551615 : Nat) = 2 ^ 64 - 1 by decide, Nat.testBit_two_pow_sub_one]
  simp [hi]
theorem flip_eq {x : Nat} (h : x < 18446744073709551616) : flip64 x = 18446744073709551615 - x := by
  refine word_eq (flip_lt h) (by omega) fun i hi => ?_
  rw [flip_bit hi, show 18446744073709551615 - x = 2 ^ 64 - (x + 1) by omega, Nat.testBit_two_pow_sub_succ (by omega)]
  simp [hi]
theorem and_lt {x y : Nat} (h : x < 18446744073709551616) : x &&& y < 18446744073709551616 := Nat.lt_of_le_of_lt Nat.and_le_left h
theorem or_lt {x y : Nat} (h : x < 18446744073709551616) (k : y < 18446744073709551616) : x ||| y < 18446744073709551616 := Nat.or_lt_two_pow (n := 64) (by omega) (by omega)
theorem one_shl {i : Int} {k : Nat} (hi : i = (k : Int)) (hk : k < 64) : IntKind.u64.wrap ((1 : Int) * 2 ^ (min i.toNat IntKind.u64.bits)) = ((2 ^ k : Nat) : Int) := by
  subst hi
  show IntKind.u64.wrap ((1 : Int) * 2 ^ (min (k : Int).toNat 64)) = ((2 ^ k : Nat) : Int)
  rw [IntKind.wrap_u64, show ((k : Int).toNat) = k by omega, Nat.min_eq_left (by omega)]
  have : 2 ^ k < 2 ^ 64 := Nat.pow_lt_pow_right (by omega) hk
  have h2 : ((2 : Int) ^ k) = ((2 ^ k : Nat) : Int) := by simp
  rw [Int.one_mul, h2]
  generalize 2 ^ k = y at *
  omega
theorem shr_nat {x k : Nat} {i : Int} (hi : i = (k : Int)) (hk : k ≤ 64) : ((x : Nat) : Int).fdiv (2 ^ (min i.toNat IntKind.u64.bits)) = ((x / 2 ^ k : Nat) : Int) := by
  subst hi
  show ((x : Nat) : Int).fdiv (2 ^ (min (k : Int).toNat 64)) = ((x / 2 ^ k : Nat) : Int)
  rw [show ((k : Int).toNat) = k by omega, Nat.min_eq_left hk]
  have h2 : ((2 : Int) ^ k) = ((2 ^ k : Nat) : Int) := by simp
  rw [h2, Int.fdiv_eq_ediv_of_nonneg _ (Int.natCast_nonneg _)]
  rfl
theorem bit_test {x k : Nat} : ((((x / 2 ^ k) &&& 1 : Nat) : Int) != 0) = x.testBit k := by
  rw [nat_mask1, Nat.testBit_eq_decide_div_mod_eq]
  rcases Nat.mod_two_eq_zero_or_one (x / 2 ^ k) with h | h <;> rw [h] <;> rfl
theorem bit_test' {x k : Nat} : ((((x / 2 ^ k) &&& 1 : Nat) : Int) == 1) = x.testBit k := by
  rw [nat_mask1, Nat.testBit_eq_decide_div_mod_eq]
  rcases Nat.mod_two_eq_zero_or_one (x / 2 ^ k) with h | h <;> rw [h] <;> rfl
theorem quo64 {b : Int} (h0 : 0 ≤ b) (h1 : b < 9223372036854775808) : IntKind.i64.wrap (b.tdiv 64) = ((b.toNat / 64 : Nat) : Int) := by
  rw [Int.tdiv_eq_ediv_of_nonneg h0, wrap_id (by omega) (by omega)]
  omega
theorem rem64 {b : Int} (h0 : 0 ≤ b) : b.tmod 64 = ((b.toNat % 64 : Nat) : Int) := by
  rw [Int.tmod_eq_emod_of_nonneg h0]
  omega
end Go.Proofs.YtfjbgmeimipibaaGreatDoor
/- Code: words: name, hex, has, bound. -/
namespace Go.Proofs.YtfjbgmeimipibaaGreatDoor
open Go Go.Mv
set_option maxHeartbeats 1000000
set_option maxRecDepth 10000
set_option linter.unusedVariables false
set_option linter.unusedSimpArgs false
theorem and63_fin : ∀ x : Fin 256, bits .and .i64 ((x.val : Nat) : Int) 63 = ((x.val % 64 : Nat) : Int) := by decide
theorem and15_fin : ∀ x : Fin 256, bits .and .i64 ((x.val : Nat) : Int) 15 = ((x.val % 16 : Nat) : Int) := by decide
theorem and63 {b : Nat} (h : b < 256) : bits .and .i64 ((b : Nat) : Int) 63 = ((b % 64 : Nat) : Int) := and63_fin ⟨b, h⟩
theorem and15 {b : Nat} (h : b < 256) : bits .and .i64 ((b : Nat) : Int) 15 = ((b % 16 : Nat) : Int) := and15_fin ⟨b, h⟩
def hexd (d : Nat) : UInt8 := UInt8.ofNat (if d < 10 then 48 + d else 87 + d)
def hexL (b : Nat) : List UInt8 := [hexd (b / 16), hexd (b % 16)]
def nameL (op : Int) : List UInt8 :=
  if op = 1 then [98, 121, 116, 101] else if op = 2 then [115, 112, 108, 105, 116] else if op = 3 then [106, 117, 109, 112] else if op = 4 then [98, 101, 103, 105, 110] else if op = 5 then [101, 110, 100]
  else if op = 6 then [111, 112, 101, 110] else if op = 7 then [99, 108, 111, 115, 101] else if op = 8 then [98, 97, 99, 107] else if op = 9 then [122, 101, 114, 111] else if op = 10 then [116, 117, 114, 110] else if op = 11 then [109, 97, 116, 99, 104] else []
attribute [local irreducible] FCalls PCalls IntKind.wrap bits Mem.set Mem.setCell Mem.setCells YCalls RunP NextP RunU
theorem name_c {m : Mem} {op : Int} (h0 : 0 ≤ op) (h1 : op ≤ 11) : FCalls Tryz.prog 57 [.int .i64 op] m fun v m' => v = str (nameL op) ∧ m' = m := by
  have : op = 0 ∨ op = 1 ∨ op = 2 ∨ op = 3 ∨ op = 4 ∨ op = 5 ∨ op = 6 ∨ op = 7 ∨ op = 8 ∨ op = 9 ∨ op = 10 ∨ op = 11 := by omega
  rcases this with rfl | rfl | rfl | rfl | rfl | rfl | rfl | rfl | rfl | rfl | rfl | rfl
  all_goals
    refine fcalls_of_vc (T := tbl) (B := bodies) (pr := []) (DR := dr57) (args := [.v (.int .i64 _)]) tbl_ok bodies_ok mixed Tryz.func57 rfl (by decide +kernel) (by simp [Tryz.f57]) rfl ?_
    (conv => whnf)
    refine ⟨by omega, by decide, ?_⟩
    (conv => whnf)
    exact ⟨_, rfl, rfl, rfl⟩
theorem has_c {m : Mem} {G : Nat → Nat} {b : Nat} (h : WOk G) (hb : b < 256) : FCalls Tryz.prog 73 [wv G, .int .i64 ((b : Nat) : Int)] m fun v m' => v = .bool (has G b) ∧ m' = m := by
  refine fcalls_of_vc (T := tbl) (B := bodies) (pr := [2]) (DR := dr73) (args := [.ints .u64 (W G), .v (.int .i64 ((b : Nat) : Int))]) tbl_ok bodies_ok mixed Tryz.func73 rfl (by decide +kernel) (by simp [Tryz.f73]) rfl ?_
  (conv => whnf)
  have e6 : ((b : Nat) : Int).fdiv (2 ^ (min (Int.toNat 6) IntKind.i64.bits)) = ((b / 64 : Nat) : Int) := by
    show ((b : Nat) : Int).fdiv (2 ^ 6) = _
    rw [Int.fdiv_eq_ediv_of_nonneg _ (by decide)]
    rfl
  refine ⟨by omega, ?_⟩
  (conv => whnf)
  refine ⟨by rw [e6]; omega, by rw [e6]; omega, ?_⟩
  (conv => whnf)
  refine ⟨by rw [e6]; show 0 + (((b / 64 : Nat) : Int).toNat) * 1 < 4; omega, ?_⟩
  (conv => whnf)
  refine ⟨by rw [and63 hb]; omega, ?_⟩
  (conv => whnf)
  refine ⟨?_, rfl⟩
  rw [e6, and63 hb, show 0 + ((b / 64 : Nat) : Int).toNat * (tbl.at 52).size = b / 64 by show 0 + _ * 1 = _; omega, W_at (by omega), shr_nat rfl (by omega)]
  have h1 : bits .and .u64 (((G (b / 64) / 2 ^ (b % 64) : Nat) : Nat) : Int) 1 = ((G (b / 64) / 2 ^ (b % 64) &&& 1 : Nat) : Int) := u64_and_nat _ 1 (Nat.lt_of_le_of_lt (Nat.div_le_self _ _) (h _ (by omega))) (by decide)
  show Value.bool _ = _
  rw [h1, bit_test']
  rfl
theorem hexd_at : ∀ d : Fin 16, bt ⟨#[48, 49, 50, 51, 52, 53, 54, 55, 56, 57, 97, 98, 99, 100, 101, 102]⟩ ((d.val : Nat) : Int) = (((hexd d.val).toNat : Nat) : Int) := by decide
theorem hexd_bt {d : Nat} (h : d < 16) : bt ⟨#[48, 49, 50, 51, 52, 53, 54, 55, 56, 57, 97, 98, 99, 100, 101, 102]⟩ ((d : Nat) : Int) = (((hexd d).toNat : Nat) : Int) := hexd_at ⟨d, h⟩
theorem hex_c {m : Mem} {b : Nat} (hb : b < 256) : FCalls Tryz.prog 74 [.int .i64 ((b : Nat) : Int)] m fun v m' => v = str (hexL b) ∧ m' = m := by
  refine FCalls.less ?_
  refine fcalls_of_vc (T := tbl) (B := bodies) (pr := [99999]) (DR := dr74) (args := [.v (.int .i64 ((b : Nat) : Int))]) tbl_ok bodies_ok mixed Tryz.func74 rfl (by decide +kernel) (by simp [Tryz.f74]) rfl ?_
  (conv => whnf)
  have e4 : ((b : Nat) : Int).fdiv (2 ^ (min (Int.toNat 4) IntKind.i64.bits)) = ((b / 16 : Nat) : Int) := by
    show ((b : Nat) : Int).fdiv (2 ^ 4) = _
    rw [Int.fdiv_eq_ediv_of_nonneg _ (by decide)]
    rfl
  refine ⟨by omega, ?_⟩
  (conv => whnf)
  refine ⟨by rw [e4]; omega, by rw [e4]; show ((b / 16 : Nat) : Int) < ((16 : Nat) : Int); omega, ?_⟩
  (conv => whnf)
  refine ⟨by rw [and15 hb]; omega, by rw [and15 hb]; show ((b % 16 : Nat) : Int) < ((16 : Nat) : Int); omega, ?_⟩
  (conv => whnf)
  intro nb m2 hn he
  have h := (Sep.init m).new' (l := byteVals (hexL b)) hn (he.trans (by
    rw [e4, and15 hb, hexd_bt (show b / 16 < 16 by omega), hexd_bt (show b % 16 < 16 by omega)]
    rfl))
  clear he
  (conv => whnf)
  refine ⟨hexL b, rfl, .inr ⟨_, rfl, (h.blk 0 rfl).holds fun k v hk => by rw [Nat.zero_add]; exact hk⟩, ?_⟩
  (conv => whnf)
  exact ⟨m, h.kept 1 rfl, rfl, rfl⟩
theorem bound_c {m : Mem} (hg : Gl m) {n : Int} (h0 : -9223372036854775808 ≤ n) (h1 : n ≤ 9223372036854775807) : FCalls Tryz.prog 59 [.int .i64 n] m fun v m' => v = str (if n = -1 then [42] else Lib.itoa n) ∧ m' = m := by
  refine fcalls_of_vc (T := tbl) (B := bodies) (pr := []) (DR := dr59) (args := [.v (.int .i64 n)]) tbl_ok bodies_ok mixed Tryz.func59 rfl (by decide +kernel) (by simp [Tryz.f59]) rfl ?_
  (conv => whnf)
  refine brk_intro (fun c => ?_) (fun c => ?_)
  · have c : n = -1 := by simpa using c
    rw [if_pos c]
    (conv => whnf)
    exact ⟨rfl, rfl⟩
  · have c : ¬ n = -1 := by simpa using c
    rw [if_neg c]
    (conv => whnf)
    refine FCalls.mono (itoa_c hg h0 h1) ?_
    rintro v m1 ⟨rfl, rfl⟩
    (conv => whnf)
    exact ⟨rfl, rfl⟩
end Go.Proofs.YtfjbgmeimipibaaGreatDoor
/- Code: a set as a text. -/
namespace Go.Proofs.YtfjbgmeimipibaaGreatDoor
open Go Go.Mv
set_option maxHeartbeats 1000000
set_option maxRecDepth 10000
set_option linter.unusedVariables false
set_option linter.unusedSimpArgs false
/-- Where a run of bytes ends. -/
def runEnd (f : Nat → Bool) : Nat → Nat → Nat
  | 0, b => b
  | n + 1, b => if b < 255 ∧ f (b + 1) = true then runEnd f n (b + 1) else b
def runE (f : Nat → Bool) (b : Nat) : Nat := runEnd f 255 b
theorem runEnd_fuel (f : Nat → Bool) : ∀ (n k b : Nat), 255 - b ≤ n → 255 - b ≤ k → runEnd f n b = runEnd f k b
  | 0, 0, _, _, _ => rfl
  | 0, k + 1, b, h, _ => by rw [runEnd, runEnd, if_neg (by omega)]
  | n + 1, 0, b, _, h => by rw [runEnd, runEnd, if_neg (by omega)]
  | n + 1, k + 1, b, h1, h2 => by
    rw [runEnd, runEnd]
    split
    · exact runEnd_fuel f n k (b + 1) (by omega) (by omega)
    · rfl
theorem runE_step {f : Nat → Bool} {b : Nat} (h : b < 255) (hf : f (b + 1) = true) : runE f b = runE f (b + 1) := by
  unfold runE
  rw [runEnd_fuel f 255 256 b (by omega) (by omega), runEnd, if_pos ⟨h, hf⟩]
theorem runE_stop {f : Nat → Bool} {b : Nat} (h : ¬ (b < 255 ∧ f (b + 1) = true)) : runE f b = b := by
  unfold runE
  rw [runEnd, if_neg h]
theorem runEnd_ge (f : Nat → Bool) : ∀ (n b : Nat), b ≤ runEnd f n b
  | 0, b => Nat.le_refl _
  | n + 1, b => by
    rw [runEnd]
    split
    · have := runEnd_ge f n (b + 1); omega
    · exact Nat.le_refl _
theorem runE_ge (f : Nat → Bool) (b : Nat) : b ≤ runE f b := runEnd_ge f 255 b
theorem runEnd_le (f : Nat → Bool) : ∀ (n b : Nat), b ≤ 255 → runEnd f n b ≤ 255
  | 0, b, h => h
  | n + 1, b, h => by
    rw [runEnd]
    split
    · rename_i h1; exact runEnd_le f n (b + 1) (by omega)
    · exact h
theorem runE_le {f : Nat → Bool} {b : Nat} (h : b ≤ 255) : runE f b ≤ 255 := runEnd_le f 255 b h
theorem runEnd_in (f : Nat → Bool) : ∀ (n b x : Nat), b < x → x ≤ runEnd f n b → f x = true
  | 0, b, x, h1, h2 => by rw [runEnd] at h2; omega
  | n + 1, b, x, h1, h2 => by
    rw [runEnd] at h2
    split at h2
    · rename_i h
      by_cases hx : x = b + 1
      · rw [hx]; exact h.2
      · exact runEnd_in f n (b + 1) x (by omega) h2
    · omega
theorem runE_in {f : Nat → Bool} {b x : Nat} (h1 : b < x) (h2 : x ≤ runE f b) : f x = true := runEnd_in f 255 b x h1 h2
theorem runEnd_out (f : Nat → Bool) : ∀ (n b : Nat), 255 - b ≤ n → runEnd f n b < 255 → f (runEnd f n b + 1) = false
  | 0, b, h, h2 => by rw [runEnd] at h2; omega
  | n + 1, b, h, h2 => by
    rw [runEnd] at h2 ⊢
    split
    · rename_i h1
      rw [if_pos h1] at h2
      exact runEnd_out f n (b + 1) (by omega) h2
    · rename_i h1
      rw [if_neg h1] at h2
      cases hf : f (b + 1) with
      | false => rfl
      | true => exact absurd ⟨h2, hf⟩ h1
theorem runE_out {f : Nat → Bool} {b : Nat} (h : runE f b < 255) : f (runE f b + 1) = false := runEnd_out f 255 b (by omega) h
/-- The runs of bytes from b on. -/
def runsF (f : Nat → Bool) : Nat → Nat → List (Nat × Nat)
  | 0, _ => []
  | n + 1, b => if b < 256 then (if f b = true then (b, runE f b) :: runsF f n (runE f b + 1) else runsF f n (b + 1)) else []
theorem runsF_fuel (f : Nat → Bool) : ∀ (n k b : Nat), 256 - b ≤ n → 256 - b ≤ k → runsF f n b = runsF f k b
  | 0, 0, _, _, _ => rfl
  | 0, k + 1, b, h, _ => by rw [runsF, runsF, if_neg (by omega)]
  | n + 1, 0, b, _, h => by rw [runsF, runsF, if_neg (by omega)]
  | n + 1, k + 1, b, h1, h2 => by
    have := runE_ge f b
    rw [runsF, runsF]
    split
    · split
      · rw [runsF_fuel f n k (runE f b + 1) (by omega) (by omega)]
      · exact runsF_fuel f n k (b + 1) (by omega) (by omega)
    · rfl
def runs (f : Nat → Bool) (b : Nat) : List (Nat × Nat) := runsF f 256 b
theorem runs_in {f : Nat → Bool} {b : Nat} (h : b < 256) (hf : f b = true) : runs f b = (b, runE f b) :: runs f (runE f b + 1) := by
  have := runE_ge f b
  unfold runs
  rw [runsF_fuel f 256 257 b (by omega) (by omega), runsF, if_pos h, if_pos hf]
theorem runs_out {f : Nat → Bool} {b : Nat} (hf : f b = false) : runs f b = runs f (b + 1) := by
  unfold runs
  by_cases h : b < 256
  · rw [runsF_fuel f 256 257 b (by omega) (by omega), runsF, if_pos h, if_neg (by simp [hf])]
  · rw [runsF, if_neg h, runsF, if_neg (by omega)]
theorem runs_end {f : Nat → Bool} {b : Nat} (h : 256 ≤ b) : runs f b = [] := by
  unfold runs
  rw [runsF, if_neg (by omega)]
theorem runsF_len (f : Nat → Bool) : ∀ (n b : Nat), (runsF f n b).length ≤ n
  | 0, _ => Nat.le_refl _
  | n + 1, b => by
    rw [runsF]
    split
    · split
      · have := runsF_len f n (runE f b + 1); simp; omega
      · have := runsF_len f n (b + 1); omega
    · simp
theorem runs_len (f : Nat → Bool) (b : Nat) : (runs f b).length ≤ 256 := runsF_len f 256 b
def pieceL (r : Nat × Nat) : List UInt8 := if r.1 = r.2 then hexL r.2 else hexL r.1 ++ [45] ++ hexL r.2
theorem piece_len (r : Nat × Nat) : (pieceL r).length ≤ 5 := by
  unfold pieceL
  split <;> simp [hexL]
def noneL : List UInt8 := [110, 111, 110, 101]
/-- A set as a text. -/
def classOf : List (Nat × Nat) → List UInt8
  | [] => noneL
  | x :: r => joinL [44] ((x :: r).map pieceL)
def classL (f : Nat → Bool) : List UInt8 := classOf (runs f 0)
theorem join_len : ∀ l : List (List UInt8), (∀ x ∈ l, x.length ≤ 5) → (joinL [44] l).length ≤ 6 * l.length
  | [], _ => by simp [joinL]
  | [x], h => by have := h x (by simp); simp [joinL]; omega
  | x :: y :: r, h => by
    have ih := join_len (y :: r) fun z hz => h z (List.mem_cons_of_mem _ hz)
    have := h x (by simp)
    simp only [joinL, List.length_append, List.length_cons, List.length_nil] at ih ⊢
    omega
attribute [local irreducible] runs runE runsF runEnd FCalls PCalls IntKind.wrap bits Mem.set Mem.setCell Mem.setCells YCalls RunP NextP RunU
theorem str_app (a b : List UInt8) : (⟨a.toArray⟩ : ByteArray) ++ ⟨b.toArray⟩ = ⟨(a ++ b).toArray⟩ := by
  apply ByteArray.ext
  apply Array.ext'
  simp
theorem app3 (a b : List UInt8) : (⟨a.toArray⟩ : ByteArray) ++ ⟨#[45]⟩ ++ ⟨b.toArray⟩ = ⟨(a ++ [45] ++ b).toArray⟩ := by
  rw [show (⟨#[45]⟩ : ByteArray) = ⟨([45] : List UInt8).toArray⟩ from rfl, str_app, str_app]
theorem sz2 (b : Nat) : (((⟨(hexL b).toArray⟩ : ByteArray).size + (⟨#[45]⟩ : ByteArray).size : Nat) : Int) ≤ IntKind.i64.max := by
  show (((hexL b).length + 1 : Nat) : Int) ≤ 9223372036854775807
  simp [hexL]
theorem sz3 (b s : Nat) : ((((⟨(hexL b).toArray⟩ : ByteArray) ++ ⟨#[45]⟩).size + (⟨(hexL s).toArray⟩ : ByteArray).size : Nat) : Int) ≤ IntKind.i64.max := by
  rw [ByteArray.size_append]
  show (((hexL b).length + 1 + (hexL s).length : Nat) : Int) ≤ 9223372036854775807
  simp [hexL]
theorem w54 {G : Nat → Nat} : (tbl.at 54).size = (W G).length := by rw [W_len]; rfl
theorem class_c {m : Mem} {G : Nat → Nat} (hG : WOk G) : FCalls Tryz.prog 58 [wv G] m fun v m' => v = str (classL (has G)) ∧ m' = m := by
  refine FCalls.less ?_
  refine fcalls_of_vc (T := tbl) (B := bodies) (pr := [99999, 1]) (DR := dr58) (args := [.ints .u64 (W G)]) tbl_ok bodies_ok mixed Tryz.func58 rfl (by decide +kernel) (by simp [Tryz.f58]) rfl ?_
  (conv => whnf)
  have h := Sep.free (A := sl none 0 0 1 []) (Sep.init m) sl_nil
  have hlen := runs_len (has G) 0
  refine loop_keep [1] (Nat × List (Nat × Nat) × Option Addr × Nat × Mem) (fun t => [(3, .v (.slice t.2.2.1 t.2.1.length t.2.2.2.1)), (4, .v (.int .i64 ((t.1 : Nat) : Int)))]) (fun _ => [.ints .u64 (W G)]) (fun t => t.2.2.2.2)
    (fun t => t.1 ≤ 256 ∧ t.2.1 ++ runs (has G) t.1 = runs (has G) 0 ∧ (t.2.1 = [] → t.2.2.1 = none) ∧ Sep [sl t.2.2.1 t.2.1.length t.2.2.2.1 1 (t.2.1.map fun r => str (pieceL r)), kp m] t.2.2.2.2) (fun t => 256 - t.1)
    (0, [], none, 0, m) ⟨rfl, rfl, trivial⟩ rfl rfl ⟨by omega, List.nil_append _, fun _ => rfl, h⟩ ?_
  clear h
  (conv => whnf)
  refine ⟨rfl, ?_⟩
  rintro ⟨b, done, A, c, M⟩ ⟨hb, hJ, hnil, h⟩
  simp only at hb hJ hnil h
  (conv => whnf)
  refine brk_intro (fun q7 => ?_) (fun q7 => ?_)
  · have c7 : b < 256 := by have : (b : Int) < 256 := (by simpa using q7); omega
    (conv => whnf)
    refine ⟨rfl, w54, ?_⟩
    (conv => whnf)
    refine FCalls.mono (has_c hG c7) ?_
    rintro v m1 ⟨rfl, rfl⟩
    (conv => whnf)
    refine brk_intro (fun q8 => ?_) (fun q8 => ?_)
    · have c8 : has G b = false := by simpa using q8
      have step1 : IntKind.i64.wrap ((b : Int) + 1) = ((b + 1 : Nat) : Int) := wrap_id (by omega) (by omega)
      (conv => whnf)
      exact ⟨(b + 1, done, A, c, _), le_eq ⟨rfl, by show some (AV.v (.int .i64 (IntKind.i64.wrap ((b : Int) + 1)))) = _; rw [step1], rfl, trivial⟩ rfl rfl rfl, ⟨by simp only; omega, by rw [← runs_out c8]; exact hJ, hnil, h⟩, by simp only; omega⟩
    · have c8 : has G b = true := by simpa using q8
      have hge := runE_ge (has G) b
      have hle := runE_le (f := has G) (b := b) (by omega)
      have hll : done.length < 256 := by
        have := congrArg List.length hJ
        rw [runs_in c7 c8] at this
        simp at this
        omega
      rw [runs_in c7 c8] at hJ
      (conv => whnf)
      refine loop_keep [1, 3, 5] Nat (fun s => [(4, .v (.int .i64 ((s : Nat) : Int)))]) (fun _ => [.ints .u64 (W G)]) (fun _ => _) (fun s => b ≤ s ∧ s ≤ 255 ∧ runE (has G) s = runE (has G) b) (fun s => 256 - s) b ⟨rfl, trivial⟩ rfl rfl ⟨Nat.le_refl _, by omega, rfl⟩ ?_
      (conv => whnf)
      refine ⟨rfl, ?_⟩
      rintro s ⟨hs1, hs2, hs3⟩
      have step1 : IntKind.i64.wrap ((s : Int) + 1) = ((s + 1 : Nat) : Int) := wrap_id (by omega) (by omega)
      (conv => whnf)
      refine brk_intro (fun q9 => ?_) (fun q9 => ?_)
      · have c9 : s < 255 := by have : (s : Int) < 255 := (by simpa using q9); omega
        (conv => whnf)
        refine ⟨rfl, w54, ?_⟩
        (conv => whnf)
        rw [step1]
        refine FCalls.mono (has_c hG (show s + 1 < 256 by omega)) ?_
        rintro v m1 ⟨rfl, rfl⟩
        (conv => whnf)
        refine brk_intro (fun q10 => ?_) (fun q10 => ?_)
        · have c10 : has G (s + 1) = true := by simpa using q10
          (conv => whnf)
          rw [step1]
          exact ⟨s + 1, le_eq ⟨rfl, rfl, rfl, rfl, trivial⟩ rfl rfl rfl, ⟨by omega, by omega, by rw [← hs3, runE_step c9 c10]⟩, by omega⟩
        · have c10 : has G (s + 1) = false := by simpa using q10
          have he : runE (has G) b = s := by rw [← hs3]; exact runE_stop (by rw [c10]; simp)
          rw [he] at hJ
          (conv => whnf)
          refine brk_intro (fun q11 => ?_) (fun q11 => ?_)
          · have c11 : b = s := by have : (b : Int) = s := (by simpa using q11); omega
            (conv => whnf)
            refine FCalls.mono (hex_c (show s < 256 by omega)) ?_
            rintro v m1 ⟨rfl, rfl⟩
            (conv => whnf)
            intro nb m5 hb he
            replace h := h.new' (l := [str (hexL s)]) hb (he.trans rfl)
            have hBn : m5.holds ⟨nb, 0, none⟩ [str (hexL s)] := (h.blk 0 rfl).holds fun k v hk => by rw [Nat.zero_add]; exact hk
            clear hb he
            (conv => whnf)
            obtain ⟨ok, hR⟩ := h.app 1 (T := tbl) (e := 9) (news := [str (hexL s)]) (k := 1) (B := some ⟨nb, 0, none⟩) rfl rfl (.inr ⟨_, rfl, hBn⟩) rfl rfl (by show 2 * (_ + 1) * 16 ≤ 2 ^ 48; omega) rfl
            refine ⟨_, _, ok, fun A2 c5 m6 hr2 => ?_⟩
            replace h := (hR _ _ _ hr2).drop 0
            clear ok hR hr2 hBn
            have e1 : done.length + 1 = (done ++ [(b, s)]).length := by simp
            have e2 : done.map (fun r => str (pieceL r)) ++ [str (hexL s)] = (done ++ [(b, s)]).map fun r => str (pieceL r) := by simp [pieceL, c11]
            rw [e1]
            replace h : Mv.Sep [sl A2 (done.length + 1) c5 1 (done.map (fun r => str (pieceL r)) ++ [str (hexL s)]), kp m] m6 := h
            rw [e1, e2] at h
            have step2 : IntKind.i64.wrap ((s : Int) + 1) = ((s + 1 : Nat) : Int) := wrap_id (by omega) (by omega)
            (conv => whnf)
            exact ⟨(s + 1, done ++ [(b, s)], A2, c5, m6), le_eq ⟨rfl, by show some (AV.v (.int .i64 (IntKind.i64.wrap ((s : Int) + 1)))) = _; rw [step2], rfl, trivial⟩ rfl rfl rfl, ⟨by simp only; omega, by simpa using hJ, by simp, h⟩, by simp only; omega⟩
          · have c11 : b ≠ s := by have : ¬ (b : Int) = s := (by simpa using q11); omega
            (conv => whnf)
            refine FCalls.mono (hex_c (show b < 256 by omega)) ?_
            rintro v m1 ⟨rfl, rfl⟩
            (conv => whnf)
            refine ⟨sz2 b, ?_⟩
            (conv => whnf)
            refine FCalls.mono (hex_c (show s < 256 by omega)) ?_
            rintro v m1 ⟨rfl, rfl⟩
            (conv => whnf)
            refine ⟨sz3 b s, ?_⟩
            (conv => whnf)
            intro nb m5 hb he
            replace h := h.new' (l := [.string (⟨(hexL b).toArray⟩ ++ ⟨#[45]⟩ ++ ⟨(hexL s).toArray⟩)]) hb (he.trans rfl)
            have hBn : m5.holds ⟨nb, 0, none⟩ [.string (⟨(hexL b).toArray⟩ ++ ⟨#[45]⟩ ++ ⟨(hexL s).toArray⟩)] := (h.blk 0 rfl).holds fun k v hk => by rw [Nat.zero_add]; exact hk
            clear hb he
            (conv => whnf)
            obtain ⟨ok, hR⟩ := h.app 1 (T := tbl) (e := 9) (news := [.string (⟨(hexL b).toArray⟩ ++ ⟨#[45]⟩ ++ ⟨(hexL s).toArray⟩)]) (k := 1) (B := some ⟨nb, 0, none⟩) rfl rfl (.inr ⟨_, rfl, hBn⟩) rfl rfl (by show 2 * (_ + 1) * 16 ≤ 2 ^ 48; omega) rfl
            refine ⟨_, _, ok, fun A2 c5 m6 hr2 => ?_⟩
            replace h := (hR _ _ _ hr2).drop 0
            clear ok hR hr2 hBn
            have e1 : done.length + 1 = (done ++ [(b, s)]).length := by simp
            have e2 : done.map (fun r => str (pieceL r)) ++ [.string (⟨(hexL b).toArray⟩ ++ ⟨#[45]⟩ ++ ⟨(hexL s).toArray⟩)] = (done ++ [(b, s)]).map fun r => str (pieceL r) := by simp [pieceL, c11, app3, str]
            rw [e1]
            replace h : Mv.Sep [sl A2 (done.length + 1) c5 1 (done.map (fun r => str (pieceL r)) ++ [.string (⟨(hexL b).toArray⟩ ++ ⟨#[45]⟩ ++ ⟨(hexL s).toArray⟩)]), kp m] m6 := h
            rw [e1, e2] at h
            have step2 : IntKind.i64.wrap ((s : Int) + 1) = ((s + 1 : Nat) : Int) := wrap_id (by omega) (by omega)
            (conv => whnf)
            exact ⟨(s + 1, done ++ [(b, s)], A2, c5, m6), le_eq ⟨rfl, by show some (AV.v (.int .i64 (IntKind.i64.wrap ((s : Int) + 1)))) = _; rw [step2], rfl, trivial⟩ rfl rfl rfl, ⟨by simp only; omega, by simpa using hJ, by simp, h⟩, by simp only; omega⟩
      · have c9 : s = 255 := by have : ¬ (s : Int) < 255 := (by simpa using q9); omega
        have he : runE (has G) b = s := by rw [← hs3]; exact runE_stop (by omega)
        rw [he] at hJ
        (conv => whnf)
        refine brk_intro (fun q11 => ?_) (fun q11 => ?_)
        · have c11 : b = s := by have : (b : Int) = s := (by simpa using q11); omega
          (conv => whnf)
          refine FCalls.mono (hex_c (show s < 256 by omega)) ?_
          rintro v m1 ⟨rfl, rfl⟩
          (conv => whnf)
          intro nb m5 hb he
          replace h := h.new' (l := [str (hexL s)]) hb (he.trans rfl)
          have hBn : m5.holds ⟨nb, 0, none⟩ [str (hexL s)] := (h.blk 0 rfl).holds fun k v hk => by rw [Nat.zero_add]; exact hk
          clear hb he
          (conv => whnf)
          obtain ⟨ok, hR⟩ := h.app 1 (T := tbl) (e := 9) (news := [str (hexL s)]) (k := 1) (B := some ⟨nb, 0, none⟩) rfl rfl (.inr ⟨_, rfl, hBn⟩) rfl rfl (by show 2 * (_ + 1) * 16 ≤ 2 ^ 48; omega) rfl
          refine ⟨_, _, ok, fun A2 c5 m6 hr2 => ?_⟩
          replace h := (hR _ _ _ hr2).drop 0
          clear ok hR hr2 hBn
          have e1 : done.length + 1 = (done ++ [(b, s)]).length := by simp
          have e2 : done.map (fun r => str (pieceL r)) ++ [str (hexL s)] = (done ++ [(b, s)]).map fun r => str (pieceL r) := by simp [pieceL, c11]
          rw [e1]
          replace h : Mv.Sep [sl A2 (done.length + 1) c5 1 (done.map (fun r => str (pieceL r)) ++ [str (hexL s)]), kp m] m6 := h
          rw [e1, e2] at h
          have step2 : IntKind.i64.wrap ((s : Int) + 1) = ((s + 1 : Nat) : Int) := wrap_id (by omega) (by omega)
          (conv => whnf)
          exact ⟨(s + 1, done ++ [(b, s)], A2, c5, m6), le_eq ⟨rfl, by show some (AV.v (.int .i64 (IntKind.i64.wrap ((s : Int) + 1)))) = _; rw [step2], rfl, trivial⟩ rfl rfl rfl, ⟨by simp only; omega, by simpa using hJ, by simp, h⟩, by simp only; omega⟩
        · have c11 : b ≠ s := by have : ¬ (b : Int) = s := (by simpa using q11); omega
          (conv => whnf)
          refine FCalls.mono (hex_c (show b < 256 by omega)) ?_
          rintro v m1 ⟨rfl, rfl⟩
          (conv => whnf)
          refine ⟨sz2 b, ?_⟩
          (conv => whnf)
          refine FCalls.mono (hex_c (show s < 256 by omega)) ?_
          rintro v m1 ⟨rfl, rfl⟩
          (conv => whnf)
          refine ⟨sz3 b s, ?_⟩
          (conv => whnf)
          intro nb m5 hb he
          replace h := h.new' (l := [.string (⟨(hexL b).toArray⟩ ++ ⟨#[45]⟩ ++ ⟨(hexL s).toArray⟩)]) hb (he.trans rfl)
          have hBn : m5.holds ⟨nb, 0, none⟩ [.string (⟨(hexL b).toArray⟩ ++ ⟨#[45]⟩ ++ ⟨(hexL s).toArray⟩)] := (h.blk 0 rfl).holds fun k v hk => by rw [Nat.zero_add]; exact hk
          clear hb he
          (conv => whnf)
          obtain ⟨ok, hR⟩ := h.app 1 (T := tbl) (e := 9) (news := [.string (⟨(hexL b).toArray⟩ ++ ⟨#[45]⟩ ++ ⟨(hexL s).toArray⟩)]) (k := 1) (B := some ⟨nb, 0, none⟩) rfl rfl (.inr ⟨_, rfl, hBn⟩) rfl rfl (by show 2 * (_ + 1) * 16 ≤ 2 ^ 48; omega) rfl
          refine ⟨_, _, ok, fun A2 c5 m6 hr2 => ?_⟩
          replace h := (hR _ _ _ hr2).drop 0
          clear ok hR hr2 hBn
          have e1 : done.length + 1 = (done ++ [(b, s)]).length := by simp
          have e2 : done.map (fun r => str (pieceL r)) ++ [.string (⟨(hexL b).toArray⟩ ++ ⟨#[45]⟩ ++ ⟨(hexL s).toArray⟩)] = (done ++ [(b, s)]).map fun r => str (pieceL r) := by simp [pieceL, c11, app3, str]
          rw [e1]
          replace h : Mv.Sep [sl A2 (done.length + 1) c5 1 (done.map (fun r => str (pieceL r)) ++ [.string (⟨(hexL b).toArray⟩ ++ ⟨#[45]⟩ ++ ⟨(hexL s).toArray⟩)]), kp m] m6 := h
          rw [e1, e2] at h
          have step2 : IntKind.i64.wrap ((s : Int) + 1) = ((s + 1 : Nat) : Int) := wrap_id (by omega) (by omega)
          (conv => whnf)
          exact ⟨(s + 1, done ++ [(b, s)], A2, c5, m6), le_eq ⟨rfl, by show some (AV.v (.int .i64 (IntKind.i64.wrap ((s : Int) + 1)))) = _; rw [step2], rfl, trivial⟩ rfl rfl rfl, ⟨by simp only; omega, by simpa using hJ, by simp, h⟩, by simp only; omega⟩
  · have c7 : b = 256 := by have : ¬ (b : Int) < 256 := (by simpa using q7); omega
    subst c7
    rw [runs_end (Nat.le_refl _), List.append_nil] at hJ
    have hcl : classL (has G) = classOf done := by unfold classL; rw [← hJ]
    (conv => whnf)
    refine brk_intro (fun q8 => ?_) (fun q8 => ?_)
    · have hd : done = [] := by
        cases done with
        | nil => rfl
        | cons x r =>
          have := (h.asn 0 rfl)
          have hA : A = none := by cases A <;> simp_all
          subst hA
          rcases this.2.2 with ⟨_, h0⟩ | ⟨_, _, _, _, h0, _⟩
          · have := this.2.1; simp at this; omega
          · cases h0
      rw [hd] at hcl
      rw [hcl]
      (conv => whnf)
      exact ⟨m, h.kept 1 rfl, rfl, rfl⟩
    · have hd : done ≠ [] := by
        rintro rfl
        rw [hnil rfl] at q8
        cases q8
      have hcl2 : classL (has G) = joinL [44] (done.map pieceL) := by
        rw [hcl]
        cases done with
        | nil => exact absurd rfl hd
        | cons x r => rfl
      rw [hcl2]
      (conv => whnf)
      have hjl := join_len (done.map pieceL) (fun x hx => by obtain ⟨r, _, rfl⟩ := List.mem_map.1 hx; exact piece_len r)
      have hdl : done.length ≤ 256 := by rw [hJ]; exact hlen
      have hsl := h.asn 0 rfl
      have e3 : done.length = (done.map pieceL).length := by simp
      rw [e3]
      rw [List.length_map] at hjl
      refine FCalls.mono (join_c (sep := [44]) (by rw [List.map_map]; exact sl_rd hsl) (by have := hsl.2.1; simpa using this) (by simp; omega) (by omega) (fun p hp => ?_)) ?_
      · rcases hsl.2.2 with ⟨h0, _⟩ | ⟨b, o, l, e, h0, _⟩
        · rw [h0] at hp; cases hp
        · rw [h0] at hp; cases hp; rfl
      rintro v m1 ⟨rfl, rfl⟩
      (conv => whnf)
      exact ⟨m, h.kept 1 rfl, rfl, rfl⟩
end Go.Proofs.YtfjbgmeimipibaaGreatDoor
