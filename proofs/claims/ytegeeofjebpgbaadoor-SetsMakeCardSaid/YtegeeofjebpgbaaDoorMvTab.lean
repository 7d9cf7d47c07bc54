/- The table of types of this seat's translation, the functions with bodies, and where the tails of regions that draw their order begin. Written by a program of this session. -/
import Derived.Test.YtegeeofjebpgbaaDoorProg
import Derived.Test.YtegeeofjebpgbaaDoorMvFun
import Derived.KernelRfl
namespace Go.Proofs.YtegeeofjebpgbaaDoor
open Go Go.Mv
def tbl : Tbl := [
  (1, ⟨.func, 1, 8, .cells [.nilFunc], false⟩),
  (2, ⟨.int .i64, 1, 8, .cells [.int .i64 0], false⟩),
  (3, ⟨.int .i64, 1, 8, .cells [.int .i64 0], false⟩),
  (4, ⟨.bool, 1, 1, .cells [.bool false], false⟩),
  (5, ⟨.int .u8, 1, 1, .cells [.int .u8 0], false⟩),
  (6, ⟨.int .u8, 1, 1, .cells [.int .u8 0], false⟩),
  (7, ⟨.struct [(0, 2), (1, 3), (2, 4), (3, 6)], 4, 24, .cells [.int .i64 0, .int .i64 0, .bool false, .int .u8 0], true⟩),
  (8, ⟨.struct [(0, 2), (1, 3), (2, 4), (3, 6)], 4, 24, .cells [.int .i64 0, .int .i64 0, .bool false, .int .u8 0], true⟩),
  (9, ⟨.str, 1, 16, .cells [.string ⟨#[]⟩], false⟩),
  (10, ⟨.str, 1, 16, .cells [.string ⟨#[]⟩], false⟩),
  (11, ⟨.str, 1, 16, .cells [.string ⟨#[]⟩], false⟩),
  (12, ⟨.int .u64, 1, 8, .cells [.int .u64 0], false⟩),
  (13, ⟨.struct [(0, 9), (1, 12)], 2, 24, .cells [.string ⟨#[]⟩, .int .u64 0], false⟩),
  (14, ⟨.struct [(0, 9), (1, 12)], 2, 24, .cells [.string ⟨#[]⟩, .int .u64 0], false⟩),
  (15, ⟨.ptr, 1, 8, .cells [.pointer none], false⟩),
  (16, ⟨.ptr, 1, 8, .cells [.pointer none], false⟩),
  (17, ⟨.ptr, 1, 8, .cells [.pointer none], false⟩),
  (18, ⟨.struct [(0, 17)], 1, 8, .cells [.pointer none], false⟩),
  (19, ⟨.struct [(0, 17)], 1, 8, .cells [.pointer none], false⟩),
  (21, ⟨.int .i32, 1, 4, .cells [.int .i32 0], false⟩),
  (22, ⟨.int .u64, 1, 8, .cells [.int .u64 0], false⟩),
  (23, ⟨.arr 4 22, 4, 32, .ints .u64 [0, 0, 0, 0], true⟩),
  (24, ⟨.arr 4 22, 4, 32, .ints .u64 [0, 0, 0, 0], true⟩),
  (25, ⟨.func, 1, 8, .cells [.nilFunc], false⟩),
  (26, ⟨.func, 1, 8, .cells [.nilFunc], false⟩),
  (27, ⟨.func, 1, 8, .cells [.nilFunc], false⟩),
  (28, ⟨.func, 1, 8, .cells [.nilFunc], false⟩),
  (30, ⟨.func, 1, 8, .cells [.nilFunc], false⟩),
  (31, ⟨.func, 1, 8, .cells [.nilFunc], false⟩),
  (32, ⟨.func, 1, 8, .cells [.nilFunc], false⟩),
  (33, ⟨.func, 1, 8, .cells [.nilFunc], false⟩),
  (34, ⟨.slice 3, 1, 24, .cells [.slice none 0 0], false⟩),
  (35, ⟨.func, 1, 8, .cells [.nilFunc], false⟩),
  (36, ⟨.slice 40, 1, 24, .cells [.slice none 0 0], false⟩),
  (37, ⟨.func, 1, 8, .cells [.nilFunc], false⟩),
  (38, ⟨.func, 1, 8, .cells [.nilFunc], false⟩),
  (39, ⟨.struct [(0, 3), (1, 3)], 2, 16, .cells [.int .i64 0, .int .i64 0], true⟩),
  (40, ⟨.struct [(0, 3), (1, 3)], 2, 16, .cells [.int .i64 0, .int .i64 0], true⟩),
  (41, ⟨.func, 1, 8, .cells [.nilFunc], false⟩),
  (42, ⟨.func, 1, 8, .cells [.nilFunc], false⟩),
  (43, ⟨.func, 1, 8, .cells [.nilFunc], false⟩),
  (44, ⟨.func, 1, 8, .cells [.nilFunc], false⟩),
  (45, ⟨.func, 1, 8, .cells [.nilFunc], false⟩),
  (46, ⟨.int .i64, 1, 8, .cells [.int .i64 0], false⟩),
  (48, ⟨.func, 1, 8, .cells [.nilFunc], false⟩),
  (50, ⟨.func, 1, 8, .cells [.nilFunc], false⟩),
  (51, ⟨.func, 1, 8, .cells [.nilFunc], false⟩),
  (52, ⟨.func, 1, 8, .cells [.nilFunc], false⟩),
  (53, ⟨.func, 1, 8, .cells [.nilFunc], false⟩),
  (54, ⟨.func, 1, 8, .cells [.nilFunc], false⟩),
  (55, ⟨.func, 1, 8, .cells [.nilFunc], false⟩),
  (56, ⟨.func, 1, 8, .cells [.nilFunc], false⟩),
  (57, ⟨.func, 1, 8, .cells [.nilFunc], false⟩),
  (58, ⟨.arr 4 22, 4, 32, .ints .u64 [0, 0, 0, 0], true⟩),
  (59, ⟨.func, 1, 8, .cells [.nilFunc], false⟩),
  (60, ⟨.func, 1, 8, .cells [.nilFunc], false⟩),
  (61, ⟨.int .u64, 1, 8, .cells [.int .u64 0], false⟩),
  (62, ⟨.arr 256 4, 256, 256, .bools (List.replicate 256 false), false⟩),
  (63, ⟨.func, 1, 8, .cells [.nilFunc], false⟩),
  (64, ⟨.func, 1, 8, .cells [.nilFunc], false⟩),
  (65, ⟨.func, 1, 8, .cells [.nilFunc], false⟩),
  (66, ⟨.func, 1, 8, .cells [.nilFunc], false⟩),
  (67, ⟨.func, 1, 8, .cells [.nilFunc], false⟩),
  (68, ⟨.slice 5, 1, 24, .cells [.slice none 0 0], false⟩),
  (69, ⟨.arr 64 5, 64, 64, .ints .u8 (List.replicate 64 0), true⟩),
  (70, ⟨.func, 1, 8, .cells [.nilFunc], false⟩),
  (71, ⟨.struct [(0, 17), (1, 17), (2, 17), (3, 9)], 4, 40, .cells [.pointer none, .pointer none, .pointer none, .string ⟨#[]⟩], false⟩),
  (72, ⟨.struct [(0, 17), (1, 17), (2, 17), (3, 9)], 4, 40, .cells [.pointer none, .pointer none, .pointer none, .string ⟨#[]⟩], false⟩),
  (73, ⟨.arr 0 16, 0, 0, .cells [], false⟩),
  (74, ⟨.struct [(0, 73)], 0, 0, .cells [], false⟩),
  (75, ⟨.struct [(0, 73)], 0, 0, .cells [], false⟩),
  (76, ⟨.func, 1, 8, .cells [.nilFunc], false⟩),
  (77, ⟨.int .u32, 1, 4, .cells [.int .u32 0], false⟩),
  (78, ⟨.int .u8, 1, 1, .cells [.int .u8 0], false⟩),
  (79, ⟨.int .u8, 1, 1, .cells [.int .u8 0], false⟩),
  (80, ⟨.func, 1, 8, .cells [.nilFunc], false⟩),
  (81, ⟨.ptr, 1, 8, .cells [.pointer none], false⟩),
  (82, ⟨.int .i32, 1, 4, .cells [.int .i32 0], false⟩),
  (83, ⟨.int .i32, 1, 4, .cells [.int .i32 0], false⟩),
  (84, ⟨.struct [(0, 12), (1, 12), (2, 77), (3, 78), (4, 5), (5, 5), (6, 79), (7, 80), (8, 81), (9, 82), (10, 83)], 11, 48, .cells [.int .u64 0, .int .u64 0, .int .u32 0, .int .u8 0, .int .u8 0, .int .u8 0, .int .u8 0, .nilFunc, .pointer none, .int .i32 0, .int .i32 0], false⟩),
  (85, ⟨.struct [(0, 12), (1, 12), (2, 77), (3, 78), (4, 5), (5, 5), (6, 79), (7, 80), (8, 81), (9, 82), (10, 83)], 11, 48, .cells [.int .u64 0, .int .u64 0, .int .u32 0, .int .u8 0, .int .u8 0, .int .u8 0, .int .u8 0, .nilFunc, .pointer none, .int .i32 0, .int .i32 0], false⟩)]
set_option maxRecDepth 100000 in
theorem tbl_ok : tbl.ok Tryd.prog = true := by kernel_rfl
def bodies : List Nat := [3, 4, 5, 6, 7, 8, 9, 10, 11, 12, 13, 14, 15, 16, 17, 18, 19, 20, 21, 22, 23, 24, 25, 26, 27, 28, 29, 30, 31, 32, 33, 34, 35, 36, 37, 38, 39, 40, 41, 42, 43, 44, 45, 46, 47, 48, 49, 50, 51, 52, 53]
theorem bodies_ok : bodiesOk Tryd.prog bodies = true := by kernel_rfl
theorem mixed : Tryd.prog.follows .mixedOrders = true := by kernel_rfl
noncomputable abbrev code3 : Code := Tryd.f3.body.getD .skip
def dr3 : List (Nat × Nat) := [(15, 8)]
noncomputable abbrev code4 : Code := Tryd.f4.body.getD .skip
def dr4 : List (Nat × Nat) := []
noncomputable abbrev code5 : Code := Tryd.f5.body.getD .skip
def dr5 : List (Nat × Nat) := [(2, 42)]
noncomputable abbrev code6 : Code := Tryd.f6.body.getD .skip
def dr6 : List (Nat × Nat) := [(7, 19)]
noncomputable abbrev code7 : Code := Tryd.f7.body.getD .skip
def dr7 : List (Nat × Nat) := [(4, 45)]
noncomputable abbrev code8 : Code := Tryd.f8.body.getD .skip
def dr8 : List (Nat × Nat) := []
noncomputable abbrev code9 : Code := Tryd.f9.body.getD .skip
def dr9 : List (Nat × Nat) := [(4, 61)]
noncomputable abbrev code10 : Code := Tryd.f10.body.getD .skip
def dr10 : List (Nat × Nat) := []
noncomputable abbrev code11 : Code := Tryd.f11.body.getD .skip
def dr11 : List (Nat × Nat) := []
noncomputable abbrev code12 : Code := Tryd.f12.body.getD .skip
def dr12 : List (Nat × Nat) := []
noncomputable abbrev code13 : Code := Tryd.f13.body.getD .skip
def dr13 : List (Nat × Nat) := []
noncomputable abbrev code14 : Code := Tryd.f14.body.getD .skip
def dr14 : List (Nat × Nat) := []
noncomputable abbrev code15 : Code := Tryd.f15.body.getD .skip
def dr15 : List (Nat × Nat) := []
noncomputable abbrev code16 : Code := Tryd.f16.body.getD .skip
def dr16 : List (Nat × Nat) := [(7, 15), (9, 10)]
noncomputable abbrev code17 : Code := Tryd.f17.body.getD .skip
def dr17 : List (Nat × Nat) := []
noncomputable abbrev code18 : Code := Tryd.f18.body.getD .skip
def dr18 : List (Nat × Nat) := [(6, 8)]
noncomputable abbrev code19 : Code := Tryd.f19.body.getD .skip
def dr19 : List (Nat × Nat) := [(1, 6)]
noncomputable abbrev code20 : Code := Tryd.f20.body.getD .skip
def dr20 : List (Nat × Nat) := []
noncomputable abbrev code21 : Code := Tryd.f21.body.getD .skip
def dr21 : List (Nat × Nat) := []
noncomputable abbrev code22 : Code := Tryd.f22.body.getD .skip
def dr22 : List (Nat × Nat) := []
noncomputable abbrev code23 : Code := Tryd.f23.body.getD .skip
def dr23 : List (Nat × Nat) := [(1, 4)]
noncomputable abbrev code24 : Code := Tryd.f24.body.getD .skip
def dr24 : List (Nat × Nat) := []
noncomputable abbrev code25 : Code := Tryd.f25.body.getD .skip
def dr25 : List (Nat × Nat) := []
noncomputable abbrev code26 : Code := Tryd.f26.body.getD .skip
def dr26 : List (Nat × Nat) := []
noncomputable abbrev code27 : Code := Tryd.f27.body.getD .skip
def dr27 : List (Nat × Nat) := []
noncomputable abbrev code28 : Code := Tryd.f28.body.getD .skip
def dr28 : List (Nat × Nat) := []
noncomputable abbrev code29 : Code := Tryd.f29.body.getD .skip
def dr29 : List (Nat × Nat) := [(2, 9)]
noncomputable abbrev code30 : Code := Tryd.f30.body.getD .skip
def dr30 : List (Nat × Nat) := [(2, 9)]
noncomputable abbrev code31 : Code := Tryd.f31.body.getD .skip
def dr31 : List (Nat × Nat) := []
noncomputable abbrev code32 : Code := Tryd.f32.body.getD .skip
def dr32 : List (Nat × Nat) := []
noncomputable abbrev code33 : Code := Tryd.f33.body.getD .skip
def dr33 : List (Nat × Nat) := []
noncomputable abbrev code34 : Code := Tryd.f34.body.getD .skip
def dr34 : List (Nat × Nat) := []
noncomputable abbrev code35 : Code := Tryd.f35.body.getD .skip
def dr35 : List (Nat × Nat) := []
noncomputable abbrev code36 : Code := Tryd.f36.body.getD .skip
def dr36 : List (Nat × Nat) := []
noncomputable abbrev code37 : Code := Tryd.f37.body.getD .skip
def dr37 : List (Nat × Nat) := []
noncomputable abbrev code38 : Code := Tryd.f38.body.getD .skip
def dr38 : List (Nat × Nat) := []
noncomputable abbrev code39 : Code := Tryd.f39.body.getD .skip
def dr39 : List (Nat × Nat) := [(5, 14)]
noncomputable abbrev code40 : Code := Tryd.f40.body.getD .skip
def dr40 : List (Nat × Nat) := []
noncomputable abbrev code41 : Code := Tryd.f41.body.getD .skip
def dr41 : List (Nat × Nat) := []
noncomputable abbrev code42 : Code := Tryd.f42.body.getD .skip
def dr42 : List (Nat × Nat) := []
noncomputable abbrev code43 : Code := Tryd.f43.body.getD .skip
def dr43 : List (Nat × Nat) := []
noncomputable abbrev code44 : Code := Tryd.f44.body.getD .skip
def dr44 : List (Nat × Nat) := []
noncomputable abbrev code45 : Code := Tryd.f45.body.getD .skip
def dr45 : List (Nat × Nat) := []
noncomputable abbrev code46 : Code := Tryd.f46.body.getD .skip
def dr46 : List (Nat × Nat) := []
noncomputable abbrev code47 : Code := Tryd.f47.body.getD .skip
def dr47 : List (Nat × Nat) := [(4, 8)]
noncomputable abbrev code48 : Code := Tryd.f48.body.getD .skip
def dr48 : List (Nat × Nat) := []
noncomputable abbrev code49 : Code := Tryd.f49.body.getD .skip
def dr49 : List (Nat × Nat) := []
noncomputable abbrev code50 : Code := Tryd.f50.body.getD .skip
def dr50 : List (Nat × Nat) := []
noncomputable abbrev code51 : Code := Tryd.f51.body.getD .skip
def dr51 : List (Nat × Nat) := [(6, 11)]
noncomputable abbrev code52 : Code := Tryd.f52.body.getD .skip
def dr52 : List (Nat × Nat) := []
noncomputable abbrev code53 : Code := Tryd.f53.body.getD .skip
def dr53 : List (Nat × Nat) := []
end Go.Proofs.YtegeeofjebpgbaaDoor
