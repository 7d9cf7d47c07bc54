/- The table of types of this seat's translation, the functions with bodies, and where the tails of regions that draw their order begin. Written by a program of this session. -/
import Derived.Test.YtlnekbdcbkndbaaDoorProg
import Derived.Test.YtlnekbdcbkndbaaDoorMvFun
import Derived.KernelRfl
namespace Go.Proofs.YtlnekbdcbkndbaaDoor
open Go Go.Mv
def tbl : Tbl := [
  (1, ⟨.func, 1, 8, .cells [.nilFunc], false⟩),
  (2, ⟨.int .i64, 1, 8, .cells [.int .i64 0], false⟩),
  (3, ⟨.int .i64, 1, 8, .cells [.int .i64 0], false⟩),
  (4, ⟨.bool, 1, 1, .cells [.bool false], false⟩),
  (5, ⟨.int .u8, 1, 1, .cells [.int .u8 0], false⟩),
  (6, ⟨.int .u8, 1, 1, .cells [.int .u8 0], false⟩),
  (7, ⟨.struct [(0, 2), (1, 3), (2, 4), (3, 6)], 4, 24, .cells [.int .i64 0, .int .i64 0, .bool false, .int .u8 0], true⟩),
  (8, ⟨.struct [(0, 2), (1, 3), (2, 4), (3, 6)], 4, 24, .cells [.int .i64 0, .int .i64 0, .bool false, .int .u8 0], true⟩),
  (9, ⟨.str, 1, 16, .cells [.string ⟨#[]⟩], false⟩),
  (10, ⟨.str, 1, 16, .cells [.string ⟨#[]⟩], false⟩),
  (11, ⟨.str, 1, 16, .cells [.string ⟨#[]⟩], false⟩),
  (12, ⟨.int .u64, 1, 8, .cells [.int .u64 0], false⟩),
  (13, ⟨.struct [(0, 9), (1, 12)], 2, 24, .cells [.string ⟨#[]⟩, .int .u64 0], false⟩),
  (14, ⟨.struct [(0, 9), (1, 12)], 2, 24, .cells [.string ⟨#[]⟩, .int .u64 0], false⟩),
  (15, ⟨.ptr, 1, 8, .cells [.pointer none], false⟩),
  (16, ⟨.ptr, 1, 8, .cells [.pointer none], false⟩),
  (17, ⟨.ptr, 1, 8, .cells [.pointer none], false⟩),
  (18, ⟨.struct [(0, 17)], 1, 8, .cells [.pointer none], false⟩),
  (19, ⟨.struct [(0, 17)], 1, 8, .cells [.pointer none], false⟩),
  (21, ⟨.int .i32, 1, 4, .cells [.int .i32 0], false⟩),
  (22, ⟨.slice 3, 1, 24, .cells [.slice none 0 0], false⟩),
  (23, ⟨.func, 1, 8, .cells [.nilFunc], false⟩),
  (24, ⟨.int .i64, 1, 8, .cells [.int .i64 0], false⟩),
  (26, ⟨.func, 1, 8, .cells [.nilFunc], false⟩),
  (28, ⟨.func, 1, 8, .cells [.nilFunc], false⟩),
  (29, ⟨.func, 1, 8, .cells [.nilFunc], false⟩),
  (30, ⟨.func, 1, 8, .cells [.nilFunc], false⟩),
  (32, ⟨.func, 1, 8, .cells [.nilFunc], false⟩),
  (34, ⟨.func, 1, 8, .cells [.nilFunc], false⟩),
  (35, ⟨.func, 1, 8, .cells [.nilFunc], false⟩),
  (36, ⟨.func, 1, 8, .cells [.nilFunc], false⟩),
  (37, ⟨.func, 1, 8, .cells [.nilFunc], false⟩),
  (39, ⟨.func, 1, 8, .cells [.nilFunc], false⟩),
  (40, ⟨.func, 1, 8, .cells [.nilFunc], false⟩),
  (41, ⟨.func, 1, 8, .cells [.nilFunc], false⟩),
  (42, ⟨.func, 1, 8, .cells [.nilFunc], false⟩),
  (43, ⟨.func, 1, 8, .cells [.nilFunc], false⟩),
  (45, ⟨.func, 1, 8, .cells [.nilFunc], false⟩),
  (46, ⟨.func, 1, 8, .cells [.nilFunc], false⟩),
  (48, ⟨.func, 1, 8, .cells [.nilFunc], false⟩),
  (49, ⟨.slice 83, 1, 24, .cells [.slice none 0 0], false⟩),
  (51, ⟨.func, 1, 8, .cells [.nilFunc], false⟩),
  (52, ⟨.slice 5, 1, 24, .cells [.slice none 0 0], false⟩),
  (53, ⟨.func, 1, 8, .cells [.nilFunc], false⟩),
  (54, ⟨.func, 1, 8, .cells [.nilFunc], false⟩),
  (55, ⟨.func, 1, 8, .cells [.nilFunc], false⟩),
  (56, ⟨.func, 1, 8, .cells [.nilFunc], false⟩),
  (58, ⟨.func, 1, 8, .cells [.nilFunc], false⟩),
  (59, ⟨.func, 1, 8, .cells [.nilFunc], false⟩),
  (61, ⟨.func, 1, 8, .cells [.nilFunc], false⟩),
  (63, ⟨.func, 1, 8, .cells [.nilFunc], false⟩),
  (64, ⟨.ptr, 1, 8, .cells [.pointer none], false⟩),
  (65, ⟨.struct [(0, 64), (1, 52)], 2, 32, .cells [.pointer none, .slice none 0 0], false⟩),
  (66, ⟨.struct [(0, 64), (1, 52)], 2, 32, .cells [.pointer none, .slice none 0 0], false⟩),
  (70, ⟨.func, 1, 8, .cells [.nilFunc], false⟩),
  (71, ⟨.func, 1, 8, .cells [.nilFunc], false⟩),
  (72, ⟨.func, 1, 8, .cells [.nilFunc], false⟩),
  (73, ⟨.func, 1, 8, .cells [.nilFunc], false⟩),
  (74, ⟨.arr 2 3, 2, 16, .ints .i64 [0, 0], true⟩),
  (75, ⟨.arr 2 74, 4, 32, .cells [.int .i64 0, .int .i64 0, .int .i64 0, .int .i64 0], false⟩),
  (76, ⟨.arr 4 3, 4, 32, .ints .i64 [0, 0, 0, 0], true⟩),
  (77, ⟨.func, 1, 8, .cells [.nilFunc], false⟩),
  (78, ⟨.func, 1, 8, .cells [.nilFunc], false⟩),
  (79, ⟨.int .u32, 1, 4, .cells [.int .u32 0], false⟩),
  (80, ⟨.func, 1, 8, .cells [.nilFunc], false⟩),
  (81, ⟨.func, 1, 8, .cells [.nilFunc], false⟩),
  (82, ⟨.ptr, 1, 8, .cells [.pointer none], false⟩),
  (83, ⟨.slice 85, 1, 24, .cells [.slice none 0 0], false⟩),
  (84, ⟨.struct [(0, 3), (1, 3)], 2, 16, .cells [.int .i64 0, .int .i64 0], true⟩),
  (85, ⟨.struct [(0, 3), (1, 3)], 2, 16, .cells [.int .i64 0, .int .i64 0], true⟩),
  (86, ⟨.int .u64, 1, 8, .cells [.int .u64 0], false⟩),
  (87, ⟨.arr 256 5, 256, 256, .ints .u8 (List.replicate 256 0), true⟩),
  (88, ⟨.struct [(0, 5), (1, 5)], 2, 2, .cells [.int .u8 0, .int .u8 0], true⟩),
  (89, ⟨.struct [(0, 5), (1, 5)], 2, 2, .cells [.int .u8 0, .int .u8 0], true⟩),
  (90, ⟨.arr 16 89, 32, 32, .cells [.int .u8 0, .int .u8 0, .int .u8 0, .int .u8 0, .int .u8 0, .int .u8 0, .int .u8 0, .int .u8 0, .int .u8 0, .int .u8 0, .int .u8 0, .int .u8 0, .int .u8 0, .int .u8 0, .int .u8 0, .int .u8 0, .int .u8 0, .int .u8 0, .int .u8 0, .int .u8 0, .int .u8 0, .int .u8 0, .int .u8 0, .int .u8 0, .int .u8 0, .int .u8 0, .int .u8 0, .int .u8 0, .int .u8 0, .int .u8 0, .int .u8 0, .int .u8 0], false⟩),
  (92, ⟨.func, 1, 8, .cells [.nilFunc], false⟩),
  (93, ⟨.arr 24 5, 24, 24, .ints .u8 (List.replicate 24 0), true⟩),
  (94, ⟨.int .u64, 1, 8, .cells [.int .u64 0], false⟩),
  (95, ⟨.func, 1, 8, .cells [.nilFunc], false⟩),
  (96, ⟨.func, 1, 8, .cells [.nilFunc], false⟩),
  (98, ⟨.func, 1, 8, .cells [.nilFunc], false⟩),
  (99, ⟨.func, 1, 8, .cells [.nilFunc], false⟩),
  (100, ⟨.func, 1, 8, .cells [.nilFunc], false⟩),
  (101, ⟨.arr 20 94, 20, 160, .ints .u64 (List.replicate 20 0), true⟩),
  (102, ⟨.arr 65 5, 65, 65, .ints .u8 (List.replicate 65 0), true⟩),
  (103, ⟨.func, 1, 8, .cells [.nilFunc], false⟩),
  (104, ⟨.func, 1, 8, .cells [.nilFunc], false⟩),
  (105, ⟨.arr 32 5, 32, 32, .ints .u8 (List.replicate 32 0), true⟩),
  (106, ⟨.arr 64 5, 64, 64, .ints .u8 (List.replicate 64 0), true⟩),
  (107, ⟨.struct [(0, 17), (1, 17), (2, 17), (3, 9)], 4, 40, .cells [.pointer none, .pointer none, .pointer none, .string ⟨#[]⟩], false⟩),
  (108, ⟨.struct [(0, 17), (1, 17), (2, 17), (3, 9)], 4, 40, .cells [.pointer none, .pointer none, .pointer none, .string ⟨#[]⟩], false⟩),
  (109, ⟨.arr 0 16, 0, 0, .cells [], false⟩),
  (110, ⟨.struct [(0, 109)], 0, 0, .cells [], false⟩),
  (111, ⟨.struct [(0, 109)], 0, 0, .cells [], false⟩),
  (112, ⟨.func, 1, 8, .cells [.nilFunc], false⟩),
  (113, ⟨.int .u8, 1, 1, .cells [.int .u8 0], false⟩),
  (114, ⟨.int .u8, 1, 1, .cells [.int .u8 0], false⟩),
  (115, ⟨.func, 1, 8, .cells [.nilFunc], false⟩),
  (116, ⟨.int .i32, 1, 4, .cells [.int .i32 0], false⟩),
  (117, ⟨.int .i32, 1, 4, .cells [.int .i32 0], false⟩),
  (118, ⟨.struct [(0, 12), (1, 12), (2, 79), (3, 113), (4, 5), (5, 5), (6, 114), (7, 115), (8, 82), (9, 116), (10, 117)], 11, 48, .cells [.int .u64 0, .int .u64 0, .int .u32 0, .int .u8 0, .int .u8 0, .int .u8 0, .int .u8 0, .nilFunc, .pointer none, .int .i32 0, .int .i32 0], false⟩),
  (119, ⟨.struct [(0, 12), (1, 12), (2, 79), (3, 113), (4, 5), (5, 5), (6, 114), (7, 115), (8, 82), (9, 116), (10, 117)], 11, 48, .cells [.int .u64 0, .int .u64 0, .int .u32 0, .int .u8 0, .int .u8 0, .int .u8 0, .int .u8 0, .nilFunc, .pointer none, .int .i32 0, .int .i32 0], false⟩)]
set_option maxRecDepth 100000 in
theorem tbl_ok : tbl.ok Tryd.prog = true := by kernel_rfl
def bodies : List Nat := [3, 4, 5, 6, 7, 8, 9, 10, 11, 12, 13, 14, 15, 16, 17, 18, 19, 20, 21, 22, 23, 24, 25, 26, 27, 28, 29, 30, 31, 32, 33, 34, 35, 36, 37, 38, 39, 40, 41, 42, 43, 44, 45, 46, 47, 48, 49, 50, 51, 52, 54, 55, 56, 57, 59, 60, 61, 62, 63, 64, 65]
theorem bodies_ok : bodiesOk Tryd.prog bodies = true := by kernel_rfl
theorem mixed : Tryd.prog.follows .mixedOrders = true := by kernel_rfl
noncomputable abbrev code3 : Code := Tryd.f3.body.getD .skip
def dr3 : List (Nat × DE) := []
noncomputable abbrev code4 : Code := Tryd.f4.body.getD .skip
def dr4 : List (Nat × DE) := []
noncomputable abbrev code5 : Code := Tryd.f5.body.getD .skip
def dr5 : List (Nat × DE) := [(21, 26)]
noncomputable abbrev code6 : Code := Tryd.f6.body.getD .skip
def dr6 : List (Nat × DE) := []
noncomputable abbrev code7 : Code := Tryd.f7.body.getD .skip
def dr7 : List (Nat × DE) := []
noncomputable abbrev code8 : Code := Tryd.f8.body.getD .skip
def dr8 : List (Nat × DE) := []
noncomputable abbrev code9 : Code := Tryd.f9.body.getD .skip
def dr9 : List (Nat × DE) := []
noncomputable abbrev code10 : Code := Tryd.f10.body.getD .skip
def dr10 : List (Nat × DE) := []
noncomputable abbrev code11 : Code := Tryd.f11.body.getD .skip
def dr11 : List (Nat × DE) := []
noncomputable abbrev code12 : Code := Tryd.f12.body.getD .skip
def dr12 : List (Nat × DE) := [(6, 8)]
noncomputable abbrev code13 : Code := Tryd.f13.body.getD .skip
def dr13 : List (Nat × DE) := []
noncomputable abbrev code14 : Code := Tryd.f14.body.getD .skip
def dr14 : List (Nat × DE) := [(31, 6)]
noncomputable abbrev code15 : Code := Tryd.f15.body.getD .skip
def dr15 : List (Nat × DE) := []
noncomputable abbrev code16 : Code := Tryd.f16.body.getD .skip
def dr16 : List (Nat × DE) := [(9, 24)]
noncomputable abbrev code17 : Code := Tryd.f17.body.getD .skip
def dr17 : List (Nat × DE) := []
noncomputable abbrev code18 : Code := Tryd.f18.body.getD .skip
def dr18 : List (Nat × DE) := []
noncomputable abbrev code19 : Code := Tryd.f19.body.getD .skip
def dr19 : List (Nat × DE) := []
noncomputable abbrev code20 : Code := Tryd.f20.body.getD .skip
def dr20 : List (Nat × DE) := []
noncomputable abbrev code21 : Code := Tryd.f21.body.getD .skip
def dr21 : List (Nat × DE) := []
noncomputable abbrev code22 : Code := Tryd.f22.body.getD .skip
def dr22 : List (Nat × DE) := [(26, 12)]
noncomputable abbrev code23 : Code := Tryd.f23.body.getD .skip
def dr23 : List (Nat × DE) := []
noncomputable abbrev code24 : Code := Tryd.f24.body.getD .skip
def dr24 : List (Nat × DE) := []
noncomputable abbrev code25 : Code := Tryd.f25.body.getD .skip
def dr25 : List (Nat × DE) := []
noncomputable abbrev code26 : Code := Tryd.f26.body.getD .skip
def dr26 : List (Nat × DE) := []
noncomputable abbrev code27 : Code := Tryd.f27.body.getD .skip
def dr27 : List (Nat × DE) := []
noncomputable abbrev code28 : Code := Tryd.f28.body.getD .skip
def dr28 : List (Nat × DE) := []
noncomputable abbrev code29 : Code := Tryd.f29.body.getD .skip
def dr29 : List (Nat × DE) := []
noncomputable abbrev code30 : Code := Tryd.f30.body.getD .skip
def dr30 : List (Nat × DE) := []
noncomputable abbrev code31 : Code := Tryd.f31.body.getD .skip
def dr31 : List (Nat × DE) := []
noncomputable abbrev code32 : Code := Tryd.f32.body.getD .skip
def dr32 : List (Nat × DE) := []
noncomputable abbrev code33 : Code := Tryd.f33.body.getD .skip
def dr33 : List (Nat × DE) := []
noncomputable abbrev code34 : Code := Tryd.f34.body.getD .skip
def dr34 : List (Nat × DE) := []
noncomputable abbrev code35 : Code := Tryd.f35.body.getD .skip
def dr35 : List (Nat × DE) := []
noncomputable abbrev code36 : Code := Tryd.f36.body.getD .skip
def dr36 : List (Nat × DE) := []
noncomputable abbrev code37 : Code := Tryd.f37.body.getD .skip
def dr37 : List (Nat × DE) := []
noncomputable abbrev code38 : Code := Tryd.f38.body.getD .skip
def dr38 : List (Nat × DE) := []
noncomputable abbrev code39 : Code := Tryd.f39.body.getD .skip
def dr39 : List (Nat × DE) := []
noncomputable abbrev code40 : Code := Tryd.f40.body.getD .skip
def dr40 : List (Nat × DE) := []
noncomputable abbrev code41 : Code := Tryd.f41.body.getD .skip
def dr41 : List (Nat × DE) := []
noncomputable abbrev code42 : Code := Tryd.f42.body.getD .skip
def dr42 : List (Nat × DE) := [(1, .s (.one 0 [1, 2, 3, 4, 10, 11] (.one 1 [2, 3, 4, 10, 11] (.one 2 [3, 4, 10, 11] (.one 5 [6, 7, 8, 9, 10, 11] (.one 6 [7, 8, 9, 10, 11] (.one 7 [8, 9, 10, 11] (.one 3 [4, 10, 11] (.fork 4 (.one 8 [9, 10, 11] (.one 9 [10, 11] (.one 10 [] (.one 11 [] (.done))))) (.fork 8 (.fork 4 (.one 9 [10, 11] (.one 10 [] (.one 11 [] (.done)))) (.fork 9 (.one 4 [] (.one 10 [] (.one 11 [] (.done)))) (.stop))) (.stop)))))))))))]
noncomputable abbrev code43 : Code := Tryd.f43.body.getD .skip
def dr43 : List (Nat × DE) := []
noncomputable abbrev code44 : Code := Tryd.f44.body.getD .skip
def dr44 : List (Nat × DE) := [(17, 10)]
noncomputable abbrev code45 : Code := Tryd.f45.body.getD .skip
def dr45 : List (Nat × DE) := []
noncomputable abbrev code46 : Code := Tryd.f46.body.getD .skip
def dr46 : List (Nat × DE) := []
noncomputable abbrev code47 : Code := Tryd.f47.body.getD .skip
def dr47 : List (Nat × DE) := []
noncomputable abbrev code48 : Code := Tryd.f48.body.getD .skip
def dr48 : List (Nat × DE) := []
noncomputable abbrev code49 : Code := Tryd.f49.body.getD .skip
def dr49 : List (Nat × DE) := []
noncomputable abbrev code50 : Code := Tryd.f50.body.getD .skip
def dr50 : List (Nat × DE) := []
noncomputable abbrev code51 : Code := Tryd.f51.body.getD .skip
def dr51 : List (Nat × DE) := []
noncomputable abbrev code52 : Code := Tryd.f52.body.getD .skip
def dr52 : List (Nat × DE) := []
noncomputable abbrev code54 : Code := Tryd.f54.body.getD .skip
def dr54 : List (Nat × DE) := []
noncomputable abbrev code55 : Code := Tryd.f55.body.getD .skip
def dr55 : List (Nat × DE) := []
noncomputable abbrev code56 : Code := Tryd.f56.body.getD .skip
def dr56 : List (Nat × DE) := [(7, 12), (8, 12), (9, 12), (10, 12), (17, 12), (18, 12), (23, 12)]
noncomputable abbrev code57 : Code := Tryd.f57.body.getD .skip
def dr57 : List (Nat × DE) := []
noncomputable abbrev code59 : Code := Tryd.f59.body.getD .skip
def dr59 : List (Nat × DE) := []
noncomputable abbrev code60 : Code := Tryd.f60.body.getD .skip
def dr60 : List (Nat × DE) := []
noncomputable abbrev code61 : Code := Tryd.f61.body.getD .skip
def dr61 : List (Nat × DE) := []
noncomputable abbrev code62 : Code := Tryd.f62.body.getD .skip
def dr62 : List (Nat × DE) := []
noncomputable abbrev code63 : Code := Tryd.f63.body.getD .skip
def dr63 : List (Nat × DE) := []
noncomputable abbrev code64 : Code := Tryd.f64.body.getD .skip
def dr64 : List (Nat × DE) := []
noncomputable abbrev code65 : Code := Tryd.f65.body.getD .skip
def dr65 : List (Nat × DE) := []
end Go.Proofs.YtlnekbdcbkndbaaDoor
