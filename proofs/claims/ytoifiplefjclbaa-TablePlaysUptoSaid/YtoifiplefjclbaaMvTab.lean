/- The table of types of this seat's translation, the functions with bodies, and where the tails of regions that draw their order begin. Written by a program of this session. -/
import Derived.Test.YtoifiplefjclbaaProg
import Derived.Test.YtoifiplefjclbaaMvFun
import Derived.KernelRfl
namespace Go.Proofs.Ytoifiplefjclbaa
open Go Go.Mv
def tbl : Tbl := [
  (1, ⟨.func, 1, 8, .cells [.nilFunc], false⟩),
  (2, ⟨.int .i64, 1, 8, .cells [.int .i64 0], false⟩),
  (3, ⟨.int .i64, 1, 8, .cells [.int .i64 0], false⟩),
  (4, ⟨.bool, 1, 1, .cells [.bool false], false⟩),
  (5, ⟨.int .u8, 1, 1, .cells [.int .u8 0], false⟩),
  (6, ⟨.int .u8, 1, 1, .cells [.int .u8 0], false⟩),
  (7, ⟨.struct [(0, 2), (1, 3), (2, 4), (3, 6)], 4, 24, .cells [.int .i64 0, .int .i64 0, .bool false, .int .u8 0], true⟩),
  (8, ⟨.struct [(0, 2), (1, 3), (2, 4), (3, 6)], 4, 24, .cells [.int .i64 0, .int .i64 0, .bool false, .int .u8 0], true⟩),
  (9, ⟨.str, 1, 16, .cells [.string ⟨#[]⟩], false⟩),
  (10, ⟨.str, 1, 16, .cells [.string ⟨#[]⟩], false⟩),
  (11, ⟨.str, 1, 16, .cells [.string ⟨#[]⟩], false⟩),
  (12, ⟨.int .u64, 1, 8, .cells [.int .u64 0], false⟩),
  (13, ⟨.struct [(0, 9), (1, 12)], 2, 24, .cells [.string ⟨#[]⟩, .int .u64 0], false⟩),
  (14, ⟨.struct [(0, 9), (1, 12)], 2, 24, .cells [.string ⟨#[]⟩, .int .u64 0], false⟩),
  (15, ⟨.ptr, 1, 8, .cells [.pointer none], false⟩),
  (16, ⟨.ptr, 1, 8, .cells [.pointer none], false⟩),
  (17, ⟨.ptr, 1, 8, .cells [.pointer none], false⟩),
  (18, ⟨.struct [(0, 17)], 1, 8, .cells [.pointer none], false⟩),
  (19, ⟨.struct [(0, 17)], 1, 8, .cells [.pointer none], false⟩),
  (21, ⟨.int .i32, 1, 4, .cells [.int .i32 0], false⟩),
  (22, ⟨.slice 3, 1, 24, .cells [.slice none 0 0], false⟩),
  (23, ⟨.func, 1, 8, .cells [.nilFunc], false⟩),
  (24, ⟨.func, 1, 8, .cells [.nilFunc], false⟩),
  (25, ⟨.ptr, 1, 8, .cells [.pointer none], false⟩),
  (26, ⟨.int .i64, 1, 8, .cells [.int .i64 0], false⟩),
  (28, ⟨.func, 1, 8, .cells [.nilFunc], false⟩),
  (29, ⟨.func, 1, 8, .cells [.nilFunc], false⟩),
  (31, ⟨.func, 1, 8, .cells [.nilFunc], false⟩),
  (32, ⟨.func, 1, 8, .cells [.nilFunc], false⟩),
  (33, ⟨.func, 1, 8, .cells [.nilFunc], false⟩),
  (34, ⟨.func, 1, 8, .cells [.nilFunc], false⟩),
  (35, ⟨.func, 1, 8, .cells [.nilFunc], false⟩),
  (36, ⟨.func, 1, 8, .cells [.nilFunc], false⟩),
  (37, ⟨.ptr, 1, 8, .cells [.pointer none], false⟩),
  (38, ⟨.slice 73, 1, 24, .cells [.slice none 0 0], false⟩),
  (39, ⟨.struct [(0, 3), (1, 3), (2, 38), (3, 3)], 4, 48, .cells [.int .i64 0, .int .i64 0, .slice none 0 0, .int .i64 0], false⟩),
  (40, ⟨.struct [(0, 3), (1, 3), (2, 38), (3, 3)], 4, 48, .cells [.int .i64 0, .int .i64 0, .slice none 0 0, .int .i64 0], false⟩),
  (41, ⟨.func, 1, 8, .cells [.nilFunc], false⟩),
  (42, ⟨.func, 1, 8, .cells [.nilFunc], false⟩),
  (43, ⟨.func, 1, 8, .cells [.nilFunc], false⟩),
  (44, ⟨.func, 1, 8, .cells [.nilFunc], false⟩),
  (45, ⟨.func, 1, 8, .cells [.nilFunc], false⟩),
  (46, ⟨.func, 1, 8, .cells [.nilFunc], false⟩),
  (47, ⟨.slice 48, 1, 24, .cells [.slice none 0 0], false⟩),
  (48, ⟨.arr 3 3, 3, 24, .ints .i64 [0, 0, 0], true⟩),
  (49, ⟨.func, 1, 8, .cells [.nilFunc], false⟩),
  (50, ⟨.slice 60, 1, 24, .cells [.slice none 0 0], false⟩),
  (51, ⟨.ptr, 1, 8, .cells [.pointer none], false⟩),
  (52, ⟨.arr 2 25, 2, 16, .cells [.pointer none, .pointer none], false⟩),
  (53, ⟨.arr 2 37, 2, 16, .cells [.pointer none, .pointer none], false⟩),
  (54, ⟨.arr 2 45, 2, 16, .cells [.nilFunc, .nilFunc], false⟩),
  (55, ⟨.slice 22, 1, 24, .cells [.slice none 0 0], false⟩),
  (56, ⟨.struct [(0, 52), (2, 53), (4, 54), (6, 55)], 7, 72, .cells [.pointer none, .pointer none, .pointer none, .pointer none, .nilFunc, .nilFunc, .slice none 0 0], false⟩),
  (57, ⟨.struct [(0, 52), (2, 53), (4, 54), (6, 55)], 7, 72, .cells [.pointer none, .pointer none, .pointer none, .pointer none, .nilFunc, .nilFunc, .slice none 0 0], false⟩),
  (58, ⟨.func, 1, 8, .cells [.nilFunc], false⟩),
  (59, ⟨.struct [(0, 3), (1, 3), (2, 3), (3, 3), (4, 22), (5, 3), (6, 3), (7, 22)], 8, 96, .cells [.int .i64 0, .int .i64 0, .int .i64 0, .int .i64 0, .slice none 0 0, .int .i64 0, .int .i64 0, .slice none 0 0], false⟩),
  (60, ⟨.struct [(0, 3), (1, 3), (2, 3), (3, 3), (4, 22), (5, 3), (6, 3), (7, 22)], 8, 96, .cells [.int .i64 0, .int .i64 0, .int .i64 0, .int .i64 0, .slice none 0 0, .int .i64 0, .int .i64 0, .slice none 0 0], false⟩),
  (61, ⟨.func, 1, 8, .cells [.nilFunc], false⟩),
  (62, ⟨.slice 69, 1, 24, .cells [.slice none 0 0], false⟩),
  (63, ⟨.struct [(0, 3), (1, 3), (2, 62), (3, 3)], 4, 48, .cells [.int .i64 0, .int .i64 0, .slice none 0 0, .int .i64 0], false⟩),
  (64, ⟨.struct [(0, 3), (1, 3), (2, 62), (3, 3)], 4, 48, .cells [.int .i64 0, .int .i64 0, .slice none 0 0, .int .i64 0], false⟩),
  (65, ⟨.int .u64, 1, 8, .cells [.int .u64 0], false⟩),
  (66, ⟨.func, 1, 8, .cells [.nilFunc], false⟩),
  (67, ⟨.ptr, 1, 8, .cells [.pointer none], false⟩),
  (68, ⟨.struct [(0, 4), (1, 65), (2, 22), (3, 3)], 4, 48, .cells [.bool false, .int .u64 0, .slice none 0 0, .int .i64 0], false⟩),
  (69, ⟨.struct [(0, 4), (1, 65), (2, 22), (3, 3)], 4, 48, .cells [.bool false, .int .u64 0, .slice none 0 0, .int .i64 0], false⟩),
  (70, ⟨.func, 1, 8, .cells [.nilFunc], false⟩),
  (71, ⟨.func, 1, 8, .cells [.nilFunc], false⟩),
  (72, ⟨.struct [(0, 22), (1, 3)], 2, 32, .cells [.slice none 0 0, .int .i64 0], false⟩),
  (73, ⟨.struct [(0, 22), (1, 3)], 2, 32, .cells [.slice none 0 0, .int .i64 0], false⟩),
  (74, ⟨.func, 1, 8, .cells [.nilFunc], false⟩),
  (75, ⟨.func, 1, 8, .cells [.nilFunc], false⟩),
  (76, ⟨.func, 1, 8, .cells [.nilFunc], false⟩),
  (77, ⟨.func, 1, 8, .cells [.nilFunc], false⟩),
  (78, ⟨.func, 1, 8, .cells [.nilFunc], false⟩),
  (79, ⟨.int .u64, 1, 8, .cells [.int .u64 0], false⟩),
  (80, ⟨.func, 1, 8, .cells [.nilFunc], false⟩),
  (81, ⟨.func, 1, 8, .cells [.nilFunc], false⟩),
  (82, ⟨.func, 1, 8, .cells [.nilFunc], false⟩),
  (83, ⟨.func, 1, 8, .cells [.nilFunc], false⟩),
  (84, ⟨.int .i64, 1, 8, .cells [.int .i64 0], false⟩),
  (86, ⟨.func, 1, 8, .cells [.nilFunc], false⟩),
  (87, ⟨.func, 1, 8, .cells [.nilFunc], false⟩),
  (88, ⟨.func, 1, 8, .cells [.nilFunc], false⟩),
  (89, ⟨.func, 1, 8, .cells [.nilFunc], false⟩),
  (90, ⟨.func, 1, 8, .cells [.nilFunc], false⟩),
  (91, ⟨.int .u32, 1, 4, .cells [.int .u32 0], false⟩),
  (92, ⟨.func, 1, 8, .cells [.nilFunc], false⟩),
  (93, ⟨.int .u64, 1, 8, .cells [.int .u64 0], false⟩),
  (94, ⟨.func, 1, 8, .cells [.nilFunc], false⟩),
  (95, ⟨.func, 1, 8, .cells [.nilFunc], false⟩),
  (96, ⟨.func, 1, 8, .cells [.nilFunc], false⟩),
  (97, ⟨.ptr, 1, 8, .cells [.pointer none], false⟩),
  (98, ⟨.func, 1, 8, .cells [.nilFunc], false⟩),
  (99, ⟨.ptr, 1, 8, .cells [.pointer none], false⟩),
  (101, ⟨.func, 1, 8, .cells [.nilFunc], false⟩),
  (102, ⟨.func, 1, 8, .cells [.nilFunc], false⟩),
  (103, ⟨.struct [(0, 17), (1, 17), (2, 17), (3, 9)], 4, 40, .cells [.pointer none, .pointer none, .pointer none, .string ⟨#[]⟩], false⟩),
  (104, ⟨.struct [(0, 17), (1, 17), (2, 17), (3, 9)], 4, 40, .cells [.pointer none, .pointer none, .pointer none, .string ⟨#[]⟩], false⟩),
  (105, ⟨.arr 0 16, 0, 0, .cells [], false⟩),
  (106, ⟨.struct [(0, 105)], 0, 0, .cells [], false⟩),
  (107, ⟨.struct [(0, 105)], 0, 0, .cells [], false⟩),
  (108, ⟨.int .u8, 1, 1, .cells [.int .u8 0], false⟩),
  (109, ⟨.int .u8, 1, 1, .cells [.int .u8 0], false⟩),
  (110, ⟨.func, 1, 8, .cells [.nilFunc], false⟩),
  (111, ⟨.ptr, 1, 8, .cells [.pointer none], false⟩),
  (112, ⟨.int .i32, 1, 4, .cells [.int .i32 0], false⟩),
  (113, ⟨.int .i32, 1, 4, .cells [.int .i32 0], false⟩),
  (114, ⟨.struct [(0, 12), (1, 12), (2, 91), (3, 108), (4, 5), (5, 5), (6, 109), (7, 110), (8, 111), (9, 112), (10, 113)], 11, 48, .cells [.int .u64 0, .int .u64 0, .int .u32 0, .int .u8 0, .int .u8 0, .int .u8 0, .int .u8 0, .nilFunc, .pointer none, .int .i32 0, .int .i32 0], false⟩),
  (115, ⟨.struct [(0, 12), (1, 12), (2, 91), (3, 108), (4, 5), (5, 5), (6, 109), (7, 110), (8, 111), (9, 112), (10, 113)], 11, 48, .cells [.int .u64 0, .int .u64 0, .int .u32 0, .int .u8 0, .int .u8 0, .int .u8 0, .int .u8 0, .nilFunc, .pointer none, .int .i32 0, .int .i32 0], false⟩)]
set_option maxRecDepth 100000 in
theorem tbl_ok : tbl.ok Try.prog = true := by kernel_rfl
def bodies : List Nat := [3, 4, 5, 6, 7, 8, 9, 10, 11, 12, 13, 14, 15, 16, 17, 18, 19, 20, 21, 22, 23, 24, 25, 26, 27, 28, 29, 30, 31, 32, 33, 34, 35, 36, 37, 38, 39, 40, 41, 42, 43, 44, 45, 46, 47, 48, 49, 50, 51, 52, 53, 54, 55, 56, 57, 58, 59, 60, 61, 62, 63, 64]
theorem bodies_ok : bodiesOk Try.prog bodies = true := by kernel_rfl
theorem mixed : Try.prog.follows .mixedOrders = true := by kernel_rfl
noncomputable abbrev code3 : Code := Try.f3.body.getD .skip
def dr3 : List (Nat × DE) := []
noncomputable abbrev code4 : Code := Try.f4.body.getD .skip
def dr4 : List (Nat × DE) := []
noncomputable abbrev code5 : Code := Try.f5.body.getD .skip
def dr5 : List (Nat × DE) := []
noncomputable abbrev code6 : Code := Try.f6.body.getD .skip
def dr6 : List (Nat × DE) := []
noncomputable abbrev code7 : Code := Try.f7.body.getD .skip
def dr7 : List (Nat × DE) := [(10, 9), (16, 38), (21, 9), (35, 44), (39, 7)]
noncomputable abbrev code8 : Code := Try.f8.body.getD .skip
def dr8 : List (Nat × DE) := [(10, .s (.one 0 [18] (.one 2 [3, 4, 5, 16, 18] (.one 7 [8, 9, 10, 16, 18] (.one 12 [13, 14, 15, 16, 18] (.one 17 [18] (.one 1 [3, 4, 5, 16, 18] (.one 3 [4, 5, 16, 18] (.one 4 [5, 16, 18] (.one 5 [16, 18] (.one 6 [8, 9, 10, 16, 18] (.one 8 [9, 10, 16, 18] (.one 9 [10, 16, 18] (.one 10 [16, 18] (.one 11 [13, 14, 15, 16, 18] (.one 13 [14, 15, 16, 18] (.one 14 [15, 16, 18] (.one 15 [16, 18] (.one 16 [] (.one 18 [] (.done))))))))))))))))))))), (16, 29), (21, 8), (24, 11), (26, 11), (38, 12)]
noncomputable abbrev code9 : Code := Try.f9.body.getD .skip
def dr9 : List (Nat × DE) := [(16, .s (.one 0 [4, 5, 6, 7] (.one 1 [6, 7] (.one 2 [3, 6, 7] (.one 4 [5, 6, 7] (.one 5 [6, 7] (.one 3 [] (.one 6 [7] (.one 7 [] (.done))))))))))]
noncomputable abbrev code10 : Code := Try.f10.body.getD .skip
def dr10 : List (Nat × DE) := []
noncomputable abbrev code11 : Code := Try.f11.body.getD .skip
def dr11 : List (Nat × DE) := []
noncomputable abbrev code12 : Code := Try.f12.body.getD .skip
def dr12 : List (Nat × DE) := []
noncomputable abbrev code13 : Code := Try.f13.body.getD .skip
def dr13 : List (Nat × DE) := [(5, 9), (9, 8), (14, 13)]
noncomputable abbrev code14 : Code := Try.f14.body.getD .skip
def dr14 : List (Nat × DE) := []
noncomputable abbrev code15 : Code := Try.f15.body.getD .skip
def dr15 : List (Nat × DE) := [(10, 13)]
noncomputable abbrev code16 : Code := Try.f16.body.getD .skip
def dr16 : List (Nat × DE) := []
noncomputable abbrev code17 : Code := Try.f17.body.getD .skip
def dr17 : List (Nat × DE) := []
noncomputable abbrev code18 : Code := Try.f18.body.getD .skip
def dr18 : List (Nat × DE) := [(7, 9), (13, 13)]
noncomputable abbrev code19 : Code := Try.f19.body.getD .skip
def dr19 : List (Nat × DE) := []
noncomputable abbrev code20 : Code := Try.f20.body.getD .skip
def dr20 : List (Nat × DE) := []
noncomputable abbrev code21 : Code := Try.f21.body.getD .skip
def dr21 : List (Nat × DE) := []
noncomputable abbrev code22 : Code := Try.f22.body.getD .skip
def dr22 : List (Nat × DE) := []
noncomputable abbrev code23 : Code := Try.f23.body.getD .skip
def dr23 : List (Nat × DE) := [(4, .s (.one 0 [10, 11] (.one 1 [10, 11] (.one 2 [4, 5, 6, 7, 8, 10, 11] (.one 3 [6, 7, 8, 10, 11] (.one 4 [5, 6, 7, 8, 10, 11] (.one 5 [6, 7, 8, 10, 11] (.one 6 [7, 8, 10, 11] (.one 7 [8, 10, 11] (.fork 8 (.one 9 [10, 11] (.one 10 [] (.one 11 [] (.done)))) (.fork 9 (.one 8 [] (.one 10 [] (.one 11 [] (.done)))) (.stop)))))))))))), (6, 9)]
noncomputable abbrev code24 : Code := Try.f24.body.getD .skip
def dr24 : List (Nat × DE) := []
noncomputable abbrev code25 : Code := Try.f25.body.getD .skip
def dr25 : List (Nat × DE) := []
noncomputable abbrev code26 : Code := Try.f26.body.getD .skip
def dr26 : List (Nat × DE) := []
noncomputable abbrev code27 : Code := Try.f27.body.getD .skip
def dr27 : List (Nat × DE) := [(0, 11), (7, 12)]
noncomputable abbrev code28 : Code := Try.f28.body.getD .skip
def dr28 : List (Nat × DE) := [(4, 10)]
noncomputable abbrev code29 : Code := Try.f29.body.getD .skip
def dr29 : List (Nat × DE) := [(4, 8), (6, 8)]
noncomputable abbrev code30 : Code := Try.f30.body.getD .skip
def dr30 : List (Nat × DE) := []
noncomputable abbrev code31 : Code := Try.f31.body.getD .skip
def dr31 : List (Nat × DE) := [(11, .s (.one 0 [6, 7] (.one 1 [2, 3, 6, 7] (.one 4 [5, 6, 7] (.one 2 [3, 6, 7] (.fork 3 (.one 5 [6, 7] (.one 6 [] (.one 7 [] (.done)))) (.fork 5 (.one 3 [] (.one 6 [] (.one 7 [] (.done)))) (.stop))))))))]
noncomputable abbrev code32 : Code := Try.f32.body.getD .skip
def dr32 : List (Nat × DE) := []
noncomputable abbrev code33 : Code := Try.f33.body.getD .skip
def dr33 : List (Nat × DE) := []
noncomputable abbrev code34 : Code := Try.f34.body.getD .skip
def dr34 : List (Nat × DE) := []
noncomputable abbrev code35 : Code := Try.f35.body.getD .skip
def dr35 : List (Nat × DE) := []
noncomputable abbrev code36 : Code := Try.f36.body.getD .skip
def dr36 : List (Nat × DE) := [(4, 10), (15, 9), (18, .s (.one 9 [10, 11, 12, 13] (.one 2 [4, 5, 6, 7, 8, 12, 13] (.one 4 [5, 6, 7, 8, 12, 13] (.one 5 [6, 7, 8, 12, 13] (.one 3 [6, 7, 8, 12, 13] (.one 6 [7, 8, 12, 13] (.one 7 [8, 12, 13] (.fork 0 (.fork 1 (.fork 8 (.one 10 [11, 12, 13] (.one 11 [12, 13] (.one 12 [] (.one 13 [] (.done))))) (.fork 10 (.one 11 [12, 13] (.one 8 [] (.one 12 [] (.one 13 [] (.done))))) (.stop))) (.fork 8 (.one 1 [12, 13] (.one 10 [11, 12, 13] (.one 11 [12, 13] (.one 12 [] (.one 13 [] (.done)))))) (.fork 10 (.one 11 [12, 13] (.fork 1 (.one 8 [] (.one 12 [] (.one 13 [] (.done)))) (.fork 8 (.one 1 [12, 13] (.one 12 [] (.one 13 [] (.done)))) (.stop)))) (.stop)))) (.fork 1 (.fork 0 (.fork 8 (.one 10 [11, 12, 13] (.one 11 [12, 13] (.one 12 [] (.one 13 [] (.done))))) (.fork 10 (.one 11 [12, 13] (.one 8 [] (.one 12 [] (.one 13 [] (.done))))) (.stop))) (.fork 8 (.one 0 [12, 13] (.one 10 [11, 12, 13] (.one 11 [12, 13] (.one 12 [] (.one 13 [] (.done)))))) (.fork 10 (.one 11 [12, 13] (.fork 0 (.one 8 [] (.one 12 [] (.one 13 [] (.done)))) (.fork 8 (.one 0 [12, 13] (.one 12 [] (.one 13 [] (.done)))) (.stop)))) (.stop)))) (.fork 8 (.one 0 [12, 13] (.one 1 [12, 13] (.one 10 [11, 12, 13] (.one 11 [12, 13] (.one 12 [] (.one 13 [] (.done))))))) (.fork 10 (.one 11 [12, 13] (.fork 0 (.fork 1 (.one 8 [] (.one 12 [] (.one 13 [] (.done)))) (.fork 8 (.one 1 [12, 13] (.one 12 [] (.one 13 [] (.done)))) (.stop))) (.fork 1 (.fork 0 (.one 8 [] (.one 12 [] (.one 13 [] (.done)))) (.fork 8 (.one 0 [12, 13] (.one 12 [] (.one 13 [] (.done)))) (.stop))) (.fork 8 (.one 0 [12, 13] (.one 1 [12, 13] (.one 12 [] (.one 13 [] (.done))))) (.stop))))) (.stop))))))))))))), (23, 4)]
noncomputable abbrev code37 : Code := Try.f37.body.getD .skip
def dr37 : List (Nat × DE) := [(21, 17)]
noncomputable abbrev code38 : Code := Try.f38.body.getD .skip
def dr38 : List (Nat × DE) := [(6, 8)]
noncomputable abbrev code39 : Code := Try.f39.body.getD .skip
def dr39 : List (Nat × DE) := [(17, 16)]
noncomputable abbrev code40 : Code := Try.f40.body.getD .skip
def dr40 : List (Nat × DE) := []
noncomputable abbrev code41 : Code := Try.f41.body.getD .skip
def dr41 : List (Nat × DE) := []
noncomputable abbrev code42 : Code := Try.f42.body.getD .skip
def dr42 : List (Nat × DE) := []
noncomputable abbrev code43 : Code := Try.f43.body.getD .skip
def dr43 : List (Nat × DE) := []
noncomputable abbrev code44 : Code := Try.f44.body.getD .skip
def dr44 : List (Nat × DE) := []
noncomputable abbrev code45 : Code := Try.f45.body.getD .skip
def dr45 : List (Nat × DE) := []
noncomputable abbrev code46 : Code := Try.f46.body.getD .skip
def dr46 : List (Nat × DE) := []
noncomputable abbrev code47 : Code := Try.f47.body.getD .skip
def dr47 : List (Nat × DE) := []
noncomputable abbrev code48 : Code := Try.f48.body.getD .skip
def dr48 : List (Nat × DE) := [(4, 16), (6, 15)]
noncomputable abbrev code49 : Code := Try.f49.body.getD .skip
def dr49 : List (Nat × DE) := [(10, 17)]
noncomputable abbrev code50 : Code := Try.f50.body.getD .skip
def dr50 : List (Nat × DE) := [(10, 17)]
noncomputable abbrev code51 : Code := Try.f51.body.getD .skip
def dr51 : List (Nat × DE) := []
noncomputable abbrev code52 : Code := Try.f52.body.getD .skip
def dr52 : List (Nat × DE) := [(3, 13)]
noncomputable abbrev code53 : Code := Try.f53.body.getD .skip
def dr53 : List (Nat × DE) := [(5, 17), (11, 15), (16, 12), (17, 15), (22, 12), (23, 15)]
noncomputable abbrev code54 : Code := Try.f54.body.getD .skip
def dr54 : List (Nat × DE) := [(1, 13), (3, 16), (5, 15), (8, 13)]
noncomputable abbrev code55 : Code := Try.f55.body.getD .skip
def dr55 : List (Nat × DE) := [(1, 13), (3, 15), (5, 16), (8, 13), (10, 13), (13, 15), (15, 16), (18, 13), (21, 13)]
noncomputable abbrev code56 : Code := Try.f56.body.getD .skip
def dr56 : List (Nat × DE) := []
noncomputable abbrev code57 : Code := Try.f57.body.getD .skip
def dr57 : List (Nat × DE) := []
noncomputable abbrev code58 : Code := Try.f58.body.getD .skip
def dr58 : List (Nat × DE) := []
noncomputable abbrev code59 : Code := Try.f59.body.getD .skip
def dr59 : List (Nat × DE) := [(3, 21), (5, 15), (6, 21)]
noncomputable abbrev code60 : Code := Try.f60.body.getD .skip
def dr60 : List (Nat × DE) := []
noncomputable abbrev code61 : Code := Try.f61.body.getD .skip
def dr61 : List (Nat × DE) := [(1, 9), (2, 9), (3, 9)]
noncomputable abbrev code62 : Code := Try.f62.body.getD .skip
def dr62 : List (Nat × DE) := []
noncomputable abbrev code63 : Code := Try.f63.body.getD .skip
def dr63 : List (Nat × DE) := []
noncomputable abbrev code64 : Code := Try.f64.body.getD .skip
def dr64 : List (Nat × DE) := [(1, 10)]
end Go.Proofs.Ytoifiplefjclbaa
