/- The table of types of this seat's translation, the functions with bodies, and where the tails of regions that draw their order begin. Written by a program of this session. -/
import Derived.Test.YtbcmhpannbdejaaProg
import Derived.Test.YtbcmhpannbdejaaMvFun
import Derived.KernelRfl
namespace Go.Proofs.Ytbcmhpannbdejaa
open Go Go.Mv
def tbl : Tbl := [
  (1, ⟨.func, 1, 8, .cells [.nilFunc], false⟩),
  (2, ⟨.int .i64, 1, 8, .cells [.int .i64 0], false⟩),
  (3, ⟨.int .i64, 1, 8, .cells [.int .i64 0], false⟩),
  (4, ⟨.bool, 1, 1, .cells [.bool false], false⟩),
  (5, ⟨.int .u8, 1, 1, .cells [.int .u8 0], false⟩),
  (6, ⟨.int .u8, 1, 1, .cells [.int .u8 0], false⟩),
  (7, ⟨.struct [(0, 2), (1, 3), (2, 4), (3, 6)], 4, 24, .cells [.int .i64 0, .int .i64 0, .bool false, .int .u8 0], true⟩),
  (8, ⟨.struct [(0, 2), (1, 3), (2, 4), (3, 6)], 4, 24, .cells [.int .i64 0, .int .i64 0, .bool false, .int .u8 0], true⟩),
  (9, ⟨.str, 1, 16, .cells [.string ⟨#[]⟩], false⟩),
  (10, ⟨.str, 1, 16, .cells [.string ⟨#[]⟩], false⟩),
  (11, ⟨.str, 1, 16, .cells [.string ⟨#[]⟩], false⟩),
  (12, ⟨.int .u64, 1, 8, .cells [.int .u64 0], false⟩),
  (13, ⟨.struct [(0, 9), (1, 12)], 2, 24, .cells [.string ⟨#[]⟩, .int .u64 0], false⟩),
  (14, ⟨.struct [(0, 9), (1, 12)], 2, 24, .cells [.string ⟨#[]⟩, .int .u64 0], false⟩),
  (15, ⟨.ptr, 1, 8, .cells [.pointer none], false⟩),
  (16, ⟨.ptr, 1, 8, .cells [.pointer none], false⟩),
  (17, ⟨.ptr, 1, 8, .cells [.pointer none], false⟩),
  (18, ⟨.struct [(0, 17)], 1, 8, .cells [.pointer none], false⟩),
  (19, ⟨.struct [(0, 17)], 1, 8, .cells [.pointer none], false⟩),
  (21, ⟨.int .i32, 1, 4, .cells [.int .i32 0], false⟩),
  (22, ⟨.slice 9, 1, 24, .cells [.slice none 0 0], false⟩),
  (23, ⟨.func, 1, 8, .cells [.nilFunc], false⟩),
  (24, ⟨.ptr, 1, 8, .cells [.pointer none], false⟩),
  (25, ⟨.int .i64, 1, 8, .cells [.int .i64 0], false⟩),
  (27, ⟨.func, 1, 8, .cells [.nilFunc], false⟩),
  (28, ⟨.slice 3, 1, 24, .cells [.slice none 0 0], false⟩),
  (29, ⟨.func, 1, 8, .cells [.nilFunc], false⟩),
  (30, ⟨.func, 1, 8, .cells [.nilFunc], false⟩),
  (31, ⟨.func, 1, 8, .cells [.nilFunc], false⟩),
  (32, ⟨.func, 1, 8, .cells [.nilFunc], false⟩),
  (34, ⟨.func, 1, 8, .cells [.nilFunc], false⟩),
  (35, ⟨.func, 1, 8, .cells [.nilFunc], false⟩),
  (36, ⟨.func, 1, 8, .cells [.nilFunc], false⟩),
  (37, ⟨.func, 1, 8, .cells [.nilFunc], false⟩),
  (38, ⟨.slice 42, 1, 24, .cells [.slice none 0 0], false⟩),
  (39, ⟨.func, 1, 8, .cells [.nilFunc], false⟩),
  (40, ⟨.func, 1, 8, .cells [.nilFunc], false⟩),
  (41, ⟨.struct [(0, 3), (1, 3)], 2, 16, .cells [.int .i64 0, .int .i64 0], true⟩),
  (42, ⟨.struct [(0, 3), (1, 3)], 2, 16, .cells [.int .i64 0, .int .i64 0], true⟩),
  (43, ⟨.func, 1, 8, .cells [.nilFunc], false⟩),
  (44, ⟨.func, 1, 8, .cells [.nilFunc], false⟩),
  (45, ⟨.slice 5, 1, 24, .cells [.slice none 0 0], false⟩),
  (46, ⟨.func, 1, 8, .cells [.nilFunc], false⟩),
  (47, ⟨.slice 61, 1, 24, .cells [.slice none 0 0], false⟩),
  (48, ⟨.struct [(0, 47), (1, 28), (2, 4), (3, 3)], 4, 64, .cells [.slice none 0 0, .slice none 0 0, .bool false, .int .i64 0], false⟩),
  (49, ⟨.struct [(0, 47), (1, 28), (2, 4), (3, 3)], 4, 64, .cells [.slice none 0 0, .slice none 0 0, .bool false, .int .i64 0], false⟩),
  (50, ⟨.func, 1, 8, .cells [.nilFunc], false⟩),
  (51, ⟨.func, 1, 8, .cells [.nilFunc], false⟩),
  (52, ⟨.func, 1, 8, .cells [.nilFunc], false⟩),
  (53, ⟨.func, 1, 8, .cells [.nilFunc], false⟩),
  (54, ⟨.func, 1, 8, .cells [.nilFunc], false⟩),
  (55, ⟨.func, 1, 8, .cells [.nilFunc], false⟩),
  (56, ⟨.slice 63, 1, 24, .cells [.slice none 0 0], false⟩),
  (57, ⟨.func, 1, 8, .cells [.nilFunc], false⟩),
  (58, ⟨.func, 1, 8, .cells [.nilFunc], false⟩),
  (59, ⟨.arr 256 21, 256, 1024, .ints .i32 (List.replicate 256 0), true⟩),
  (60, ⟨.struct [(0, 59), (256, 3), (257, 28), (258, 21), (259, 21)], 260, 1064, .cells [.int .i32 0, .int .i32 0, .int .i32 0, .int .i32 0, .int .i32 0, .int .i32 0, .int .i32 0, .int .i32 0, .int .i32 0, .int .i32 0, .int .i32 0, .int .i32 0, .int .i32 0, .int .i32 0, .int .i32 0, .int .i32 0, .int .i32 0, .int .i32 0, .int .i32 0, .int .i32 0, .int .i32 0, .int .i32 0, .int .i32 0, .int .i32 0, .int .i32 0, .int .i32 0, .int .i32 0, .int .i32 0, .int .i32 0, .int .i32 0, .int .i32 0, .int .i32 0, .int .i32 0, .int .i32 0, .int .i32 0, .int .i32 0, .int .i32 0, .int .i32 0, .int .i32 0, .int .i32 0, .int .i32 0, .int .i32 0, .int .i32 0, .int .i32 0, .int .i32 0, .int .i32 0, .int .i32 0, .int .i32 0, .int .i32 0, .int .i32 0, .int .i32 0, .int .i32 0, .int .i32 0, .int .i32 0, .int .i32 0, .int .i32 0, .int .i32 0, .int .i32 0, .int .i32 0, .int .i32 0, .int .i32 0, .int .i32 0, .int .i32 0, .int .i32 0, .int .i32 0, .int .i32 0, .int .i32 0, .int .i32 0, .int .i32 0, .int .i32 0, .int .i32 0, .int .i32 0, .int .i32 0, .int .i32 0, .int .i32 0, .int .i32 0, .int .i32 0, .int .i32 0, .int .i32 0, .int .i32 0, .int .i32 0, .int .i32 0, .int .i32 0, .int .i32 0, .int .i32 0, .int .i32 0, .int .i32 0, .int .i32 0, .int .i32 0, .int .i32 0, .int .i32 0, .int .i32 0, .int .i32 0, .int .i32 0, .int .i32 0, .int .i32 0, .int .i32 0, .int .i32 0, .int .i32 0, .int .i32 0, .int .i32 0, .int .i32 0, .int .i32 0, .int .i32 0, .int .i32 0, .int .i32 0, .int .i32 0, .int .i32 0, .int .i32 0, .int .i32 0, .int .i32 0, .int .i32 0, .int .i32 0, .int .i32 0, .int .i32 0, .int .i32 0, .int .i32 0, .int .i32 0, .int .i32 0, .int .i32 0, .int .i32 0, .int .i32 0, .int .i32 0, .int .i32 0, .int .i32 0, .int .i32 0, .int .i32 0, .int .i32 0, .int .i32 0, .int .i32 0, .int .i32 0, .int .i32 0, .int .i32 0, .int .i32 0, .int .i32 0, .int .i32 0, .int .i32 0, .int .i32 0, .int .i32 0, .int .i32 0, .int .i32 0, .int .i32 0, .int .i32 0, .int .i32 0, .int .i32 0, .int .i32 0, .int .i32 0, .int .i32 0, .int .i32 0, .int .i32 0, .int .i32 0, .int .i32 0, .int .i32 0, .int .i32 0, .int .i32 0, .int .i32 0, .int .i32 0, .int .i32 0, .int .i32 0, .int .i32 0, .int .i32 0, .int .i32 0, .int .i32 0, .int .i32 0, .int .i32 0, .int .i32 0, .int .i32 0, .int .i32 0, .int .i32 0, .int .i32 0, .int .i32 0, .int .i32 0, .int .i32 0, .int .i32 0, .int .i32 0, .int .i32 0, .int .i32 0, .int .i32 0, .int .i32 0, .int .i32 0, .int .i32 0, .int .i32 0, .int .i32 0, .int .i32 0, .int .i32 0, .int .i32 0, .int .i32 0, .int .i32 0, .int .i32 0, .int .i32 0, .int .i32 0, .int .i32 0, .int .i32 0, .int .i32 0, .int .i32 0, .int .i32 0, .int .i32 0, .int .i32 0, .int .i32 0, .int .i32 0, .int .i32 0, .int .i32 0, .int .i32 0, .int .i32 0, .int .i32 0, .int .i32 0, .int .i32 0, .int .i32 0, .int .i32 0, .int .i32 0, .int .i32 0, .int .i32 0, .int .i32 0, .int .i32 0, .int .i32 0, .int .i32 0, .int .i32 0, .int .i32 0, .int .i32 0, .int .i32 0, .int .i32 0, .int .i32 0, .int .i32 0, .int .i32 0, .int .i32 0, .int .i32 0, .int .i32 0, .int .i32 0, .int .i32 0, .int .i32 0, .int .i32 0, .int .i32 0, .int .i32 0, .int .i32 0, .int .i32 0, .int .i32 0, .int .i32 0, .int .i32 0, .int .i32 0, .int .i32 0, .int .i32 0, .int .i32 0, .int .i32 0, .int .i32 0, .int .i32 0, .int .i32 0, .int .i32 0, .int .i32 0, .int .i32 0, .int .i32 0, .int .i32 0, .int .i32 0, .int .i32 0, .int .i32 0, .int .i32 0, .int .i32 0, .int .i64 0, .slice none 0 0, .int .i32 0, .int .i32 0], false⟩),
  (61, ⟨.struct [(0, 59), (256, 3), (257, 28), (258, 21), (259, 21)], 260, 1064, .cells [.int .i32 0, .int .i32 0, .int .i32 0, .int .i32 0, .int .i32 0, .int .i32 0, .int .i32 0, .int .i32 0, .int .i32 0, .int .i32 0, .int .i32 0, .int .i32 0, .int .i32 0, .int .i32 0, .int .i32 0, .int .i32 0, .int .i32 0, .int .i32 0, .int .i32 0, .int .i32 0, .int .i32 0, .int .i32 0, .int .i32 0, .int .i32 0, .int .i32 0, .int .i32 0, .int .i32 0, .int .i32 0, .int .i32 0, .int .i32 0, .int .i32 0, .int .i32 0, .int .i32 0, .int .i32 0, .int .i32 0, .int .i32 0, .int .i32 0, .int .i32 0, .int .i32 0, .int .i32 0, .int .i32 0, .int .i32 0, .int .i32 0, .int .i32 0, .int .i32 0, .int .i32 0, .int .i32 0, .int .i32 0, .int .i32 0, .int .i32 0, .int .i32 0, .int .i32 0, .int .i32 0, .int .i32 0, .int .i32 0, .int .i32 0, .int .i32 0, .int .i32 0, .int .i32 0, .int .i32 0, .int .i32 0, .int .i32 0, .int .i32 0, .int .i32 0, .int .i32 0, .int .i32 0, .int .i32 0, .int .i32 0, .int .i32 0, .int .i32 0, .int .i32 0, .int .i32 0, .int .i32 0, .int .i32 0, .int .i32 0, .int .i32 0, .int .i32 0, .int .i32 0, .int .i32 0, .int .i32 0, .int .i32 0, .int .i32 0, .int .i32 0, .int .i32 0, .int .i32 0, .int .i32 0, .int .i32 0, .int .i32 0, .int .i32 0, .int .i32 0, .int .i32 0, .int .i32 0, .int .i32 0, .int .i32 0, .int .i32 0, .int .i32 0, .int .i32 0, .int .i32 0, .int .i32 0, .int .i32 0, .int .i32 0, .int .i32 0, .int .i32 0, .int .i32 0, .int .i32 0, .int .i32 0, .int .i32 0, .int .i32 0, .int .i32 0, .int .i32 0, .int .i32 0, .int .i32 0, .int .i32 0, .int .i32 0, .int .i32 0, .int .i32 0, .int .i32 0, .int .i32 0, .int .i32 0, .int .i32 0, .int .i32 0, .int .i32 0, .int .i32 0, .int .i32 0, .int .i32 0, .int .i32 0, .int .i32 0, .int .i32 0, .int .i32 0, .int .i32 0, .int .i32 0, .int .i32 0, .int .i32 0, .int .i32 0, .int .i32 0, .int .i32 0, .int .i32 0, .int .i32 0, .int .i32 0, .int .i32 0, .int .i32 0, .int .i32 0, .int .i32 0, .int .i32 0, .int .i32 0, .int .i32 0, .int .i32 0, .int .i32 0, .int .i32 0, .int .i32 0, .int .i32 0, .int .i32 0, .int .i32 0, .int .i32 0, .int .i32 0, .int .i32 0, .int .i32 0, .int .i32 0, .int .i32 0, .int .i32 0, .int .i32 0, .int .i32 0, .int .i32 0, .int .i32 0, .int .i32 0, .int .i32 0, .int .i32 0, .int .i32 0, .int .i32 0, .int .i32 0, .int .i32 0, .int .i32 0, .int .i32 0, .int .i32 0, .int .i32 0, .int .i32 0, .int .i32 0, .int .i32 0, .int .i32 0, .int .i32 0, .int .i32 0, .int .i32 0, .int .i32 0, .int .i32 0, .int .i32 0, .int .i32 0, .int .i32 0, .int .i32 0, .int .i32 0, .int .i32 0, .int .i32 0, .int .i32 0, .int .i32 0, .int .i32 0, .int .i32 0, .int .i32 0, .int .i32 0, .int .i32 0, .int .i32 0, .int .i32 0, .int .i32 0, .int .i32 0, .int .i32 0, .int .i32 0, .int .i32 0, .int .i32 0, .int .i32 0, .int .i32 0, .int .i32 0, .int .i32 0, .int .i32 0, .int .i32 0, .int .i32 0, .int .i32 0, .int .i32 0, .int .i32 0, .int .i32 0, .int .i32 0, .int .i32 0, .int .i32 0, .int .i32 0, .int .i32 0, .int .i32 0, .int .i32 0, .int .i32 0, .int .i32 0, .int .i32 0, .int .i32 0, .int .i32 0, .int .i32 0, .int .i32 0, .int .i32 0, .int .i32 0, .int .i32 0, .int .i32 0, .int .i32 0, .int .i32 0, .int .i32 0, .int .i32 0, .int .i32 0, .int .i32 0, .int .i32 0, .int .i32 0, .int .i32 0, .int .i32 0, .int .i32 0, .int .i32 0, .int .i32 0, .int .i32 0, .int .i32 0, .int .i32 0, .int .i32 0, .int .i32 0, .int .i32 0, .int .i32 0, .int .i32 0, .int .i64 0, .slice none 0 0, .int .i32 0, .int .i32 0], false⟩),
  (62, ⟨.struct [(0, 3), (1, 3)], 2, 16, .cells [.int .i64 0, .int .i64 0], true⟩),
  (63, ⟨.struct [(0, 3), (1, 3)], 2, 16, .cells [.int .i64 0, .int .i64 0], true⟩),
  (64, ⟨.func, 1, 8, .cells [.nilFunc], false⟩),
  (65, ⟨.func, 1, 8, .cells [.nilFunc], false⟩),
  (66, ⟨.func, 1, 8, .cells [.nilFunc], false⟩),
  (67, ⟨.func, 1, 8, .cells [.nilFunc], false⟩),
  (68, ⟨.func, 1, 8, .cells [.nilFunc], false⟩),
  (69, ⟨.func, 1, 8, .cells [.nilFunc], false⟩),
  (70, ⟨.slice 21, 1, 24, .cells [.slice none 0 0], false⟩),
  (71, ⟨.func, 1, 8, .cells [.nilFunc], false⟩),
  (72, ⟨.func, 1, 8, .cells [.nilFunc], false⟩),
  (73, ⟨.int .u64, 1, 8, .cells [.int .u64 0], false⟩),
  (74, ⟨.func, 1, 8, .cells [.nilFunc], false⟩),
  (75, ⟨.func, 1, 8, .cells [.nilFunc], false⟩),
  (76, ⟨.int .i64, 1, 8, .cells [.int .i64 0], false⟩),
  (78, ⟨.func, 1, 8, .cells [.nilFunc], false⟩),
  (79, ⟨.func, 1, 8, .cells [.nilFunc], false⟩),
  (80, ⟨.func, 1, 8, .cells [.nilFunc], false⟩),
  (82, ⟨.func, 1, 8, .cells [.nilFunc], false⟩),
  (83, ⟨.func, 1, 8, .cells [.nilFunc], false⟩),
  (84, ⟨.int .u32, 1, 4, .cells [.int .u32 0], false⟩),
  (85, ⟨.func, 1, 8, .cells [.nilFunc], false⟩),
  (86, ⟨.int .u64, 1, 8, .cells [.int .u64 0], false⟩),
  (87, ⟨.int .u64, 1, 8, .cells [.int .u64 0], false⟩),
  (88, ⟨.func, 1, 8, .cells [.nilFunc], false⟩),
  (89, ⟨.func, 1, 8, .cells [.nilFunc], false⟩),
  (90, ⟨.func, 1, 8, .cells [.nilFunc], false⟩),
  (91, ⟨.ptr, 1, 8, .cells [.pointer none], false⟩),
  (92, ⟨.func, 1, 8, .cells [.nilFunc], false⟩),
  (93, ⟨.ptr, 1, 8, .cells [.pointer none], false⟩),
  (95, ⟨.func, 1, 8, .cells [.nilFunc], false⟩),
  (96, ⟨.func, 1, 8, .cells [.nilFunc], false⟩),
  (97, ⟨.struct [(0, 17), (1, 17), (2, 17), (3, 9)], 4, 40, .cells [.pointer none, .pointer none, .pointer none, .string ⟨#[]⟩], false⟩),
  (98, ⟨.struct [(0, 17), (1, 17), (2, 17), (3, 9)], 4, 40, .cells [.pointer none, .pointer none, .pointer none, .string ⟨#[]⟩], false⟩),
  (99, ⟨.arr 0 16, 0, 0, .cells [], false⟩),
  (100, ⟨.struct [(0, 99)], 0, 0, .cells [], false⟩),
  (101, ⟨.struct [(0, 99)], 0, 0, .cells [], false⟩),
  (102, ⟨.func, 1, 8, .cells [.nilFunc], false⟩),
  (103, ⟨.int .u8, 1, 1, .cells [.int .u8 0], false⟩),
  (104, ⟨.int .u8, 1, 1, .cells [.int .u8 0], false⟩),
  (105, ⟨.func, 1, 8, .cells [.nilFunc], false⟩),
  (106, ⟨.ptr, 1, 8, .cells [.pointer none], false⟩),
  (107, ⟨.int .i32, 1, 4, .cells [.int .i32 0], false⟩),
  (108, ⟨.int .i32, 1, 4, .cells [.int .i32 0], false⟩),
  (109, ⟨.struct [(0, 12), (1, 12), (2, 84), (3, 103), (4, 5), (5, 5), (6, 104), (7, 105), (8, 106), (9, 107), (10, 108)], 11, 48, .cells [.int .u64 0, .int .u64 0, .int .u32 0, .int .u8 0, .int .u8 0, .int .u8 0, .int .u8 0, .nilFunc, .pointer none, .int .i32 0, .int .i32 0], false⟩),
  (110, ⟨.struct [(0, 12), (1, 12), (2, 84), (3, 103), (4, 5), (5, 5), (6, 104), (7, 105), (8, 106), (9, 107), (10, 108)], 11, 48, .cells [.int .u64 0, .int .u64 0, .int .u32 0, .int .u8 0, .int .u8 0, .int .u8 0, .int .u8 0, .nilFunc, .pointer none, .int .i32 0, .int .i32 0], false⟩)]
set_option maxRecDepth 100000 in
theorem tbl_ok : tbl.ok Try.prog = true := by kernel_rfl
def bodies : List Nat := [3, 4, 5, 6, 7, 8, 9, 10, 11, 12, 13, 14, 15, 16, 17, 18, 19, 20, 21, 22, 23, 24, 25, 26, 27, 28, 29, 30, 31, 32, 33, 34, 35, 36, 37, 38, 39, 40, 41, 42, 43, 44, 45, 46, 47]
theorem bodies_ok : bodiesOk Try.prog bodies = true := by kernel_rfl
theorem mixed : Try.prog.follows .mixedOrders = true := by kernel_rfl
noncomputable abbrev code3 : Code := Try.f3.body.getD .skip
def dr3 : List (Nat × DE) := [(16, 55), (31, 16)]
noncomputable abbrev code4 : Code := Try.f4.body.getD .skip
def dr4 : List (Nat × DE) := []
noncomputable abbrev code5 : Code := Try.f5.body.getD .skip
def dr5 : List (Nat × DE) := [(14, .s (.one 0 [2, 4, 5] (.one 1 [2, 4, 5] (.fork 2 (.one 3 [4, 5] (.one 4 [] (.one 5 [] (.done)))) (.fork 3 (.one 2 [] (.one 4 [] (.one 5 [] (.done)))) (.stop))))))]
noncomputable abbrev code6 : Code := Try.f6.body.getD .skip
def dr6 : List (Nat × DE) := []
noncomputable abbrev code7 : Code := Try.f7.body.getD .skip
def dr7 : List (Nat × DE) := [(20, 16)]
noncomputable abbrev code8 : Code := Try.f8.body.getD .skip
def dr8 : List (Nat × DE) := []
noncomputable abbrev code9 : Code := Try.f9.body.getD .skip
def dr9 : List (Nat × DE) := []
noncomputable abbrev code10 : Code := Try.f10.body.getD .skip
def dr10 : List (Nat × DE) := []
noncomputable abbrev code11 : Code := Try.f11.body.getD .skip
def dr11 : List (Nat × DE) := []
noncomputable abbrev code12 : Code := Try.f12.body.getD .skip
def dr12 : List (Nat × DE) := []
noncomputable abbrev code13 : Code := Try.f13.body.getD .skip
def dr13 : List (Nat × DE) := []
noncomputable abbrev code14 : Code := Try.f14.body.getD .skip
def dr14 : List (Nat × DE) := [(6, 8)]
noncomputable abbrev code15 : Code := Try.f15.body.getD .skip
def dr15 : List (Nat × DE) := []
noncomputable abbrev code16 : Code := Try.f16.body.getD .skip
def dr16 : List (Nat × DE) := [(7, 16), (10, .s (.one 0 [1, 2, 3, 16, 17, 18] (.one 1 [2, 3, 16, 17, 18] (.one 2 [3, 16, 17, 18] (.one 4 [16, 17, 18] (.one 5 [6, 7, 8, 10, 11, 12, 15, 16, 17, 18] (.one 6 [7, 8, 10, 11, 12, 15, 16, 17, 18] (.one 7 [8, 10, 11, 12, 15, 16, 17, 18] (.one 9 [10, 11, 12, 15, 16, 17, 18] (.one 13 [14, 15, 16, 17, 18] (.one 8 [10, 11, 12, 15, 16, 17, 18] (.one 10 [11, 12, 15, 16, 17, 18] (.one 11 [12, 15, 16, 17, 18] (.one 12 [15, 16, 17, 18] (.fork 3 (.one 14 [] (.one 15 [] (.one 16 [17, 18] (.one 17 [18] (.one 18 [] (.done)))))) (.fork 14 (.fork 3 (.one 15 [] (.one 16 [17, 18] (.one 17 [18] (.one 18 [] (.done))))) (.fork 15 (.one 3 [16, 17, 18] (.one 16 [17, 18] (.one 17 [18] (.one 18 [] (.done))))) (.stop))) (.stop)))))))))))))))))]
noncomputable abbrev code17 : Code := Try.f17.body.getD .skip
def dr17 : List (Nat × DE) := []
noncomputable abbrev code18 : Code := Try.f18.body.getD .skip
def dr18 : List (Nat × DE) := [(10, 15)]
noncomputable abbrev code19 : Code := Try.f19.body.getD .skip
def dr19 : List (Nat × DE) := [(5, 5)]
noncomputable abbrev code20 : Code := Try.f20.body.getD .skip
def dr20 : List (Nat × DE) := []
noncomputable abbrev code21 : Code := Try.f21.body.getD .skip
def dr21 : List (Nat × DE) := []
noncomputable abbrev code22 : Code := Try.f22.body.getD .skip
def dr22 : List (Nat × DE) := []
noncomputable abbrev code23 : Code := Try.f23.body.getD .skip
def dr23 : List (Nat × DE) := [(1, 10)]
noncomputable abbrev code24 : Code := Try.f24.body.getD .skip
def dr24 : List (Nat × DE) := []
noncomputable abbrev code25 : Code := Try.f25.body.getD .skip
def dr25 : List (Nat × DE) := []
noncomputable abbrev code26 : Code := Try.f26.body.getD .skip
def dr26 : List (Nat × DE) := [(5, 14)]
noncomputable abbrev code27 : Code := Try.f27.body.getD .skip
def dr27 : List (Nat × DE) := []
noncomputable abbrev code28 : Code := Try.f28.body.getD .skip
def dr28 : List (Nat × DE) := []
noncomputable abbrev code29 : Code := Try.f29.body.getD .skip
def dr29 : List (Nat × DE) := [(17, 16)]
noncomputable abbrev code30 : Code := Try.f30.body.getD .skip
def dr30 : List (Nat × DE) := []
noncomputable abbrev code31 : Code := Try.f31.body.getD .skip
def dr31 : List (Nat × DE) := []
noncomputable abbrev code32 : Code := Try.f32.body.getD .skip
def dr32 : List (Nat × DE) := [(4, 16), (6, 15)]
noncomputable abbrev code33 : Code := Try.f33.body.getD .skip
def dr33 : List (Nat × DE) := [(10, 17)]
noncomputable abbrev code34 : Code := Try.f34.body.getD .skip
def dr34 : List (Nat × DE) := [(10, 17)]
noncomputable abbrev code35 : Code := Try.f35.body.getD .skip
def dr35 : List (Nat × DE) := []
noncomputable abbrev code36 : Code := Try.f36.body.getD .skip
def dr36 : List (Nat × DE) := [(3, 13)]
noncomputable abbrev code37 : Code := Try.f37.body.getD .skip
def dr37 : List (Nat × DE) := [(5, 17), (11, 15), (16, 12), (17, 15), (22, 12), (23, 15)]
noncomputable abbrev code38 : Code := Try.f38.body.getD .skip
def dr38 : List (Nat × DE) := [(1, 13), (3, 16), (5, 15), (8, 13)]
noncomputable abbrev code39 : Code := Try.f39.body.getD .skip
def dr39 : List (Nat × DE) := [(1, 13), (3, 15), (5, 16), (8, 13), (10, 13), (13, 15), (15, 16), (18, 13), (21, 13)]
noncomputable abbrev code40 : Code := Try.f40.body.getD .skip
def dr40 : List (Nat × DE) := []
noncomputable abbrev code41 : Code := Try.f41.body.getD .skip
def dr41 : List (Nat × DE) := []
noncomputable abbrev code42 : Code := Try.f42.body.getD .skip
def dr42 : List (Nat × DE) := [(3, 21), (5, 15), (6, 21)]
noncomputable abbrev code43 : Code := Try.f43.body.getD .skip
def dr43 : List (Nat × DE) := []
noncomputable abbrev code44 : Code := Try.f44.body.getD .skip
def dr44 : List (Nat × DE) := [(1, 9), (2, 9), (3, 9)]
noncomputable abbrev code45 : Code := Try.f45.body.getD .skip
def dr45 : List (Nat × DE) := []
noncomputable abbrev code46 : Code := Try.f46.body.getD .skip
def dr46 : List (Nat × DE) := []
noncomputable abbrev code47 : Code := Try.f47.body.getD .skip
def dr47 : List (Nat × DE) := [(1, 10)]
end Go.Proofs.Ytbcmhpannbdejaa
