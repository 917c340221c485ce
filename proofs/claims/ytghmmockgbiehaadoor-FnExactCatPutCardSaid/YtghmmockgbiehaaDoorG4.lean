/- Part of a proof about the given program: a verified evaluator, and what it tells of the functions (VhGS1, VhGFA, VhGFD, VhGFM, VhGFS, VhGFS2, VhGFX, VhGFQ, VhGFNa, VhGFNb, VhGFAk, VhGFCe, VhGFCt, VhGFCf). Conditions: none beyond the hypotheses that each theorem states. -/
import Derived.Test.YtghmmockgbiehaaDoorG3
import Derived.Test.YtghmmockgbiehaaDoorProg
set_option linter.unusedSimpArgs false
set_option linter.unusedVariables false
set_option linter.defProp false
section
namespace Go.Proofs.YtghmmockgbiehaaDoor.VH.S
open Go.Proofs
set_option maxRecDepth 100000

def rows : List (TypeId × Row) := [(1, ⟨.other, 1, 8, [.nilFunc], false⟩),
  (2, ⟨.int .i64, 1, 8, [.int .i64 0], false⟩),
  (3, ⟨.int .i64, 1, 8, [.int .i64 0], false⟩),
  (4, ⟨.bool, 1, 1, [.bool false], false⟩),
  (5, ⟨.int .u8, 1, 1, [.int .u8 0], false⟩),
  (6, ⟨.int .u8, 1, 1, [.int .u8 0], false⟩),
  (7, ⟨.struct [(0, 2), (1, 3), (2, 4), (3, 6)], 4, 24, [.int .i64 0, .int .i64 0, .bool false, .int .u8 0], false⟩),
  (8, ⟨.struct [(0, 2), (1, 3), (2, 4), (3, 6)], 4, 24, [.int .i64 0, .int .i64 0, .bool false, .int .u8 0], false⟩),
  (9, ⟨.string, 1, 16, [.string ByteArray.empty], false⟩),
  (10, ⟨.string, 1, 16, [.string ByteArray.empty], false⟩),
  (11, ⟨.string, 1, 16, [.string ByteArray.empty], false⟩),
  (12, ⟨.int .u64, 1, 8, [.int .u64 0], false⟩),
  (13, ⟨.struct [(0, 9), (1, 12)], 2, 24, [.string ByteArray.empty, .int .u64 0], false⟩),
  (14, ⟨.struct [(0, 9), (1, 12)], 2, 24, [.string ByteArray.empty, .int .u64 0], false⟩),
  (15, ⟨.pointer 125, 1, 8, [.pointer none], false⟩),
  (16, ⟨.pointer 128, 1, 8, [.pointer none], false⟩),
  (17, ⟨.pointer 138, 1, 8, [.pointer none], false⟩),
  (18, ⟨.struct [(0, 17)], 1, 8, [.pointer none], false⟩),
  (19, ⟨.struct [(0, 17)], 1, 8, [.pointer none], false⟩),
  (21, ⟨.int .i32, 1, 4, [.int .i32 0], false⟩),
  (22, ⟨.slice 50, 1, 24, [.slice none 0 0], false⟩),
  (23, ⟨.other, 1, 8, [.nilFunc], false⟩),
  (24, ⟨.slice 9, 1, 24, [.slice none 0 0], false⟩),
  (25, ⟨.other, 1, 8, [.nilFunc], false⟩),
  (26, ⟨.slice 54, 1, 24, [.slice none 0 0], false⟩),
  (27, ⟨.other, 1, 8, [.nilFunc], false⟩),
  (28, ⟨.other, 1, 8, [.nilFunc], false⟩),
  (29, ⟨.other, 1, 8, [.nilFunc], false⟩),
  (30, ⟨.other, 1, 8, [.nilFunc], false⟩),
  (31, ⟨.other, 1, 8, [.nilFunc], false⟩),
  (32, ⟨.other, 1, 8, [.nilFunc], false⟩),
  (33, ⟨.slice 35, 1, 24, [.slice none 0 0], false⟩),
  (34, ⟨.struct [(0, 9), (1, 3), (2, 3), (3, 3)], 4, 40, [.string ByteArray.empty, .int .i64 0, .int .i64 0, .int .i64 0], false⟩),
  (35, ⟨.struct [(0, 9), (1, 3), (2, 3), (3, 3)], 4, 40, [.string ByteArray.empty, .int .i64 0, .int .i64 0, .int .i64 0], false⟩),
  (36, ⟨.other, 1, 8, [.nilFunc], false⟩),
  (37, ⟨.other, 1, 8, [.nilFunc], false⟩),
  (38, ⟨.slice 42, 1, 24, [.slice none 0 0], false⟩),
  (40, ⟨.other, 1, 8, [.nilFunc], false⟩),
  (41, ⟨.other, 1, 8, [.nilFunc], false⟩),
  (42, ⟨.struct [(0, 9), (1, 3), (2, 3), (3, 3)], 4, 40, [.string ByteArray.empty, .int .i64 0, .int .i64 0, .int .i64 0], true⟩),
  (43, ⟨.other, 1, 8, [.nilFunc], false⟩),
  (44, ⟨.other, 1, 8, [.nilFunc], false⟩),
  (45, ⟨.other, 1, 8, [.nilFunc], false⟩),
  (46, ⟨.other, 1, 8, [.nilFunc], false⟩),
  (47, ⟨.other, 1, 8, [.nilFunc], false⟩),
  (48, ⟨.slice 84, 1, 24, [.slice none 0 0], false⟩),
  (49, ⟨.struct [(0, 9), (1, 48), (2, 48)], 3, 64, [.string ByteArray.empty, .slice none 0 0, .slice none 0 0], false⟩),
  (50, ⟨.struct [(0, 9), (1, 48), (2, 48)], 3, 64, [.string ByteArray.empty, .slice none 0 0, .slice none 0 0], false⟩),
  (51, ⟨.other, 1, 8, [.nilFunc], false⟩),
  (52, ⟨.slice 72, 1, 24, [.slice none 0 0], false⟩),
  (53, ⟨.struct [(0, 9), (1, 52), (2, 52)], 3, 64, [.string ByteArray.empty, .slice none 0 0, .slice none 0 0], false⟩),
  (54, ⟨.struct [(0, 9), (1, 52), (2, 52)], 3, 64, [.string ByteArray.empty, .slice none 0 0, .slice none 0 0], false⟩),
  (55, ⟨.other, 1, 8, [.nilFunc], false⟩),
  (56, ⟨.other, 1, 8, [.nilFunc], false⟩),
  (57, ⟨.other, 1, 8, [.nilFunc], false⟩),
  (58, ⟨.other, 1, 8, [.nilFunc], false⟩),
  (59, ⟨.other, 1, 8, [.nilFunc], false⟩),
  (60, ⟨.other, 1, 8, [.nilFunc], false⟩),
  (61, ⟨.other, 1, 8, [.nilFunc], false⟩),
  (62, ⟨.other, 1, 8, [.nilFunc], false⟩),
  (64, ⟨.other, 1, 8, [.nilFunc], false⟩),
  (65, ⟨.other, 1, 8, [.nilFunc], false⟩),
  (66, ⟨.other, 1, 8, [.nilFunc], false⟩),
  (67, ⟨.other, 1, 8, [.nilFunc], false⟩),
  (68, ⟨.other, 1, 8, [.nilFunc], false⟩),
  (69, ⟨.other, 1, 8, [.nilFunc], false⟩),
  (70, ⟨.slice 5, 1, 24, [.slice none 0 0], false⟩),
  (71, ⟨.struct [(0, 3), (1, 70)], 2, 32, [.int .i64 0, .slice none 0 0], false⟩),
  (72, ⟨.struct [(0, 3), (1, 70)], 2, 32, [.int .i64 0, .slice none 0 0], false⟩),
  (73, ⟨.other, 1, 8, [.nilFunc], false⟩),
  (74, ⟨.other, 1, 8, [.nilFunc], false⟩),
  (75, ⟨.other, 1, 8, [.nilFunc], false⟩),
  (76, ⟨.other, 1, 8, [.nilFunc], false⟩),
  (77, ⟨.other, 1, 8, [.nilFunc], false⟩),
  (78, ⟨.other, 1, 8, [.nilFunc], false⟩),
  (79, ⟨.other, 1, 8, [.nilFunc], false⟩),
  (80, ⟨.other, 1, 8, [.nilFunc], false⟩),
  (81, ⟨.other, 1, 8, [.nilFunc], false⟩),
  (82, ⟨.other, 1, 8, [.nilFunc], false⟩),
  (83, ⟨.other, 1, 8, [.nilFunc], false⟩),
  (84, ⟨.struct [(0, 3), (1, 70)], 2, 32, [.int .i64 0, .slice none 0 0], false⟩),
  (85, ⟨.other, 1, 8, [.nilFunc], false⟩),
  (86, ⟨.other, 1, 8, [.nilFunc], false⟩),
  (87, ⟨.other, 1, 8, [.nilFunc], false⟩),
  (88, ⟨.other, 1, 8, [.nilFunc], false⟩),
  (89, ⟨.int .u64, 1, 8, [.int .u64 0], false⟩),
  (90, ⟨.slice 3, 1, 24, [.slice none 0 0], false⟩),
  (91, ⟨.struct [(0, 3), (1, 3), (2, 70), (3, 3), (4, 3), (5, 90)], 6, 80, [.int .i64 0, .int .i64 0, .slice none 0 0, .int .i64 0, .int .i64 0, .slice none 0 0], false⟩),
  (92, ⟨.struct [(0, 3), (1, 3), (2, 70), (3, 3), (4, 3), (5, 90)], 6, 80, [.int .i64 0, .int .i64 0, .slice none 0 0, .int .i64 0, .int .i64 0, .slice none 0 0], false⟩),
  (94, ⟨.other, 1, 8, [.nilFunc], false⟩),
  (95, ⟨.other, 1, 8, [.nilFunc], false⟩),
  (96, ⟨.other, 1, 8, [.nilFunc], false⟩),
  (97, ⟨.other, 1, 8, [.nilFunc], false⟩),
  (98, ⟨.other, 1, 8, [.nilFunc], false⟩),
  (99, ⟨.other, 1, 8, [.nilFunc], false⟩),
  (100, ⟨.array 256 4, 256, 256, List.replicate 256 (.bool false), false⟩),
  (101, ⟨.array 256 4, 256, 256, List.replicate 256 (.bool false), false⟩),
  (103, ⟨.other, 1, 8, [.nilFunc], false⟩),
  (104, ⟨.other, 1, 8, [.nilFunc], false⟩),
  (105, ⟨.pointer 101, 1, 8, [.pointer none], false⟩),
  (106, ⟨.other, 1, 8, [.nilFunc], false⟩),
  (107, ⟨.other, 1, 8, [.nilFunc], false⟩),
  (108, ⟨.other, 1, 8, [.nilFunc], false⟩),
  (109, ⟨.other, 1, 8, [.nilFunc], false⟩),
  (111, ⟨.other, 1, 8, [.nilFunc], false⟩),
  (112, ⟨.other, 1, 8, [.nilFunc], false⟩),
  (113, ⟨.other, 1, 8, [.nilFunc], false⟩),
  (114, ⟨.int .u64, 1, 8, [.int .u64 0], false⟩),
  (115, ⟨.other, 1, 8, [.nilFunc], false⟩),
  (116, ⟨.array 256 5, 256, 256, List.replicate 256 (.int .u8 0), false⟩),
  (117, ⟨.struct [(0, 5), (1, 5)], 2, 2, [.int .u8 0, .int .u8 0], false⟩),
  (118, ⟨.struct [(0, 5), (1, 5)], 2, 2, [.int .u8 0, .int .u8 0], false⟩),
  (119, ⟨.array 16 118, 32, 32, [.int .u8 0, .int .u8 0, .int .u8 0, .int .u8 0, .int .u8 0, .int .u8 0, .int .u8 0, .int .u8 0, .int .u8 0, .int .u8 0, .int .u8 0, .int .u8 0, .int .u8 0, .int .u8 0, .int .u8 0, .int .u8 0, .int .u8 0, .int .u8 0, .int .u8 0, .int .u8 0, .int .u8 0, .int .u8 0, .int .u8 0, .int .u8 0, .int .u8 0, .int .u8 0, .int .u8 0, .int .u8 0, .int .u8 0, .int .u8 0, .int .u8 0, .int .u8 0], false⟩),
  (120, ⟨.other, 1, 8, [.nilFunc], false⟩),
  (121, ⟨.other, 1, 8, [.nilFunc], false⟩),
  (122, ⟨.other, 1, 8, [.nilFunc], false⟩),
  (123, ⟨.other, 1, 8, [.nilFunc], false⟩),
  (124, ⟨.struct [(0, 17), (1, 17), (2, 17), (3, 9)], 4, 40, [.pointer none, .pointer none, .pointer none, .string ByteArray.empty], false⟩),
  (125, ⟨.struct [(0, 17), (1, 17), (2, 17), (3, 9)], 4, 40, [.pointer none, .pointer none, .pointer none, .string ByteArray.empty], false⟩),
  (129, ⟨.other, 1, 8, [.nilFunc], false⟩),
  (130, ⟨.int .u32, 1, 4, [.int .u32 0], false⟩),
  (131, ⟨.int .u8, 1, 1, [.int .u8 0], false⟩),
  (132, ⟨.int .u8, 1, 1, [.int .u8 0], false⟩),
  (133, ⟨.other, 1, 8, [.nilFunc], false⟩),
  (134, ⟨.pointer 5, 1, 8, [.pointer none], false⟩),
  (135, ⟨.int .i32, 1, 4, [.int .i32 0], false⟩),
  (136, ⟨.int .i32, 1, 4, [.int .i32 0], false⟩),
  (137, ⟨.struct [(0, 12), (1, 12), (2, 130), (3, 131), (4, 5), (5, 5), (6, 132), (7, 133), (8, 134), (9, 135), (10, 136)], 11, 48, [.int .u64 0, .int .u64 0, .int .u32 0, .int .u8 0, .int .u8 0, .int .u8 0, .int .u8 0, .nilFunc, .pointer none, .int .i32 0, .int .i32 0], false⟩),
  (138, ⟨.struct [(0, 12), (1, 12), (2, 130), (3, 131), (4, 5), (5, 5), (6, 132), (7, 133), (8, 134), (9, 135), (10, 136)], 11, 48, [.int .u64 0, .int .u64 0, .int .u32 0, .int .u8 0, .int .u8 0, .int .u8 0, .int .u8 0, .nilFunc, .pointer none, .int .i32 0, .int .i32 0], false⟩)]
noncomputable def funs : List (FuncId × Func) := [(2, Tryd.f2), (3, Tryd.f3), (4, Tryd.f4), (5, Tryd.f5), (6, Tryd.f6), (7, Tryd.f7), (8, Tryd.f8), (9, Tryd.f9), (10, Tryd.f10), (11, Tryd.f11), (12, Tryd.f12), (13, Tryd.f13), (14, Tryd.f14), (15, Tryd.f15), (16, Tryd.f16), (17, Tryd.f17), (18, Tryd.f18), (19, Tryd.f19), (20, Tryd.f20), (21, Tryd.f21), (22, Tryd.f22), (23, Tryd.f23), (24, Tryd.f24), (25, Tryd.f25), (26, Tryd.f26), (27, Tryd.f27), (28, Tryd.f28), (29, Tryd.f29), (30, Tryd.f30), (31, Tryd.f31), (32, Tryd.f32), (33, Tryd.f33), (34, Tryd.f34), (35, Tryd.f35), (36, Tryd.f36), (37, Tryd.f37), (38, Tryd.f38), (39, Tryd.f39), (40, Tryd.f40), (41, Tryd.f41), (42, Tryd.f42), (43, Tryd.f43), (44, Tryd.f44), (45, Tryd.f45), (46, Tryd.f46), (47, Tryd.f47), (48, Tryd.f48), (49, Tryd.f49), (50, Tryd.f50), (51, Tryd.f51), (52, Tryd.f52), (53, Tryd.f53), (55, Tryd.f55), (56, Tryd.f56), (57, Tryd.f57), (58, Tryd.f58), (59, Tryd.f59), (60, Tryd.f60), (61, Tryd.f61), (62, Tryd.f62), (63, Tryd.f63), (64, Tryd.f64), (65, Tryd.f65), (66, Tryd.f66), (67, Tryd.f67), (68, Tryd.f68), (69, Tryd.f69), (70, Tryd.f70), (71, Tryd.f71), (72, Tryd.f72), (73, Tryd.f73), (74, Tryd.f74), (75, Tryd.f75), (76, Tryd.f76), (77, Tryd.f77), (78, Tryd.f78), (80, Tryd.f80), (81, Tryd.f81), (82, Tryd.f82), (83, Tryd.f83), (84, Tryd.f84), (85, Tryd.f85), (86, Tryd.f86), (87, Tryd.f87), (88, Tryd.f88), (89, Tryd.f89), (90, Tryd.f90), (91, Tryd.f91), (93, Tryd.f93), (94, Tryd.f94), (95, Tryd.f95), (96, Tryd.f96), (97, Tryd.f97), (98, Tryd.f98), (100, Tryd.f100), (122, Tryd.f122)]
def lookN {α : Type} (d : α) : List (Nat × α) → Nat → α
  | [], _ => d
  | (a, x) :: r, n => if n = a then x else lookN d r n
def lends : List (Nat × List Bool) := [(11, [true, false]), (12, [true, false]), (21, [true, false]), (28, [true, false]), (29, [true, false]), (38, [true]), (46, [true, false]), (54, [false, true]), (75, [false, true]), (76, [false, true]), (86, [true, false])]
def lives : List (Nat × List (Nat × List Nat)) := [(5, [(5, [0, 1, 5])]),
  (6, [(3, [0, 3, 4])]),
  (7, [(3, [0, 3, 4])]),
  (8, [(5, [3, 10, 11, 12])]),
  (9, [(4, [0, 1, 5])]),
  (10, [(4, [0, 1, 5])]),
  (11, [(2, [0, 1, 5])]),
  (12, [(2, [0, 1, 5])]),
  (13, [(2, [0, 1, 5])]),
  (14, [(5, [0, 1, 5])]),
  (16, [(11, [3, 6, 8])]),
  (17, [(3, [0, 3, 4])]),
  (20, [(4, [0, 1, 5])]),
  (21, [(2, [0, 1, 5])]),
  (22, [(2, [0, 1, 5])]),
  (24, [(2, [0, 3])]),
  (26, [(2, [0, 5, 6, 7])]),
  (28, [(4, [0, 3])]),
  (29, [(2, [0, 1, 5])]),
  (31, [(2, [0, 3])]),
  (33, [(2, [0, 1, 5])]),
  (35, [(2, [0, 5, 6, 7])]),
  (40, [(5, [0, 1, 5])]),
  (41, [(2, [0, 3])]),
  (42, [(2, [0, 3])]),
  (43, [(3, [0, 3, 4])]),
  (45, [(4, [0, 1, 5])]),
  (46, [(2, [0, 1, 5])]),
  (51, [(3, [0, 1, 2, 8, 9, 10])]),
  (66, [(20, [0, 2, 4, 5, 8, 9])]),
  (67, [(3, [0, 3, 4])]),
  (71, [(4, [0, 1, 5])]),
  (72, [(1, [0, 1])]),
  (73, [(1, [0, 1])]),
  (74, [(2, [0, 2, 4])]),
  (75, [(1, [0, 1])]),
  (76, [(1, [0, 1])]),
  (77, [(1, [0, 1])]),
  (78, [(1, [0, 1])]),
  (80, [(1, [0, 2, 3])]),
  (81, [(3, [0, 4, 5])]),
  (83, [(2, [0, 1, 7, 8])]),
  (89, [(10, [0, 4, 5, 6])]),
  (90, [(4, [0, 2, 4, 5, 6, 7, 25, 26])]),
  (94, [(3, [3, 6, 7, 8])])]
def wks : List (Nat × Option Nat) := [(34, some 4), (95, some 1)]
def boxs : List (Nat × Bool) := []
def notes : List (Nat × Bool) := [(90, true)]
def deeps : List (Nat × Bool) := [(11, true), (29, true)]
def inss : List (Nat × Option Nat) := [(38, some 4)]
def cutfs : List (Nat × Bool) := []
def cuts : List (Nat × List (Nat × Option (List Nat))) := []
noncomputable def E : Env where
  hand := (hand2 (handC 79) (handO 54 4))
  row := rowsOf rows
  lend := lookN [] lends
  live := fun f r => lookN [] (lookN [] lives f) r
  body := bodiesOf funs
  wk := lookN none wks
  boxf := lookN false boxs
  notef := lookN false notes
  deep := lookN false deeps
  insf := lookN none inss
  cutf := lookN false cutfs
  cut := fun f r => lookN none (lookN [] cuts f) r

theorem r1 : E.row 1 = some ⟨.other, 1, 8, [.nilFunc], false⟩ := rfl
theorem r2 : E.row 2 = some ⟨.int .i64, 1, 8, [.int .i64 0], false⟩ := rfl
theorem r3 : E.row 3 = some ⟨.int .i64, 1, 8, [.int .i64 0], false⟩ := rfl
theorem r4 : E.row 4 = some ⟨.bool, 1, 1, [.bool false], false⟩ := rfl
theorem r5 : E.row 5 = some ⟨.int .u8, 1, 1, [.int .u8 0], false⟩ := rfl
theorem r6 : E.row 6 = some ⟨.int .u8, 1, 1, [.int .u8 0], false⟩ := rfl
theorem r7 : E.row 7 = some ⟨.struct [(0, 2), (1, 3), (2, 4), (3, 6)], 4, 24, [.int .i64 0, .int .i64 0, .bool false, .int .u8 0], false⟩ := rfl
theorem r8 : E.row 8 = some ⟨.struct [(0, 2), (1, 3), (2, 4), (3, 6)], 4, 24, [.int .i64 0, .int .i64 0, .bool false, .int .u8 0], false⟩ := rfl
theorem r9 : E.row 9 = some ⟨.string, 1, 16, [.string ByteArray.empty], false⟩ := rfl
theorem r10 : E.row 10 = some ⟨.string, 1, 16, [.string ByteArray.empty], false⟩ := rfl
theorem r11 : E.row 11 = some ⟨.string, 1, 16, [.string ByteArray.empty], false⟩ := rfl
theorem r12 : E.row 12 = some ⟨.int .u64, 1, 8, [.int .u64 0], false⟩ := rfl
theorem r13 : E.row 13 = some ⟨.struct [(0, 9), (1, 12)], 2, 24, [.string ByteArray.empty, .int .u64 0], false⟩ := rfl
theorem r14 : E.row 14 = some ⟨.struct [(0, 9), (1, 12)], 2, 24, [.string ByteArray.empty, .int .u64 0], false⟩ := rfl
theorem r15 : E.row 15 = some ⟨.pointer 125, 1, 8, [.pointer none], false⟩ := rfl
theorem r16 : E.row 16 = some ⟨.pointer 128, 1, 8, [.pointer none], false⟩ := rfl
theorem r17 : E.row 17 = some ⟨.pointer 138, 1, 8, [.pointer none], false⟩ := rfl
theorem r18 : E.row 18 = some ⟨.struct [(0, 17)], 1, 8, [.pointer none], false⟩ := rfl
theorem r19 : E.row 19 = some ⟨.struct [(0, 17)], 1, 8, [.pointer none], false⟩ := rfl
theorem r21 : E.row 21 = some ⟨.int .i32, 1, 4, [.int .i32 0], false⟩ := rfl
theorem r22 : E.row 22 = some ⟨.slice 50, 1, 24, [.slice none 0 0], false⟩ := rfl
theorem r23 : E.row 23 = some ⟨.other, 1, 8, [.nilFunc], false⟩ := rfl
theorem r24 : E.row 24 = some ⟨.slice 9, 1, 24, [.slice none 0 0], false⟩ := rfl
theorem r25 : E.row 25 = some ⟨.other, 1, 8, [.nilFunc], false⟩ := rfl
theorem r26 : E.row 26 = some ⟨.slice 54, 1, 24, [.slice none 0 0], false⟩ := rfl
theorem r27 : E.row 27 = some ⟨.other, 1, 8, [.nilFunc], false⟩ := rfl
theorem r28 : E.row 28 = some ⟨.other, 1, 8, [.nilFunc], false⟩ := rfl
theorem r29 : E.row 29 = some ⟨.other, 1, 8, [.nilFunc], false⟩ := rfl
theorem r30 : E.row 30 = some ⟨.other, 1, 8, [.nilFunc], false⟩ := rfl
theorem r31 : E.row 31 = some ⟨.other, 1, 8, [.nilFunc], false⟩ := rfl
theorem r32 : E.row 32 = some ⟨.other, 1, 8, [.nilFunc], false⟩ := rfl
theorem r33 : E.row 33 = some ⟨.slice 35, 1, 24, [.slice none 0 0], false⟩ := rfl
theorem r34 : E.row 34 = some ⟨.struct [(0, 9), (1, 3), (2, 3), (3, 3)], 4, 40, [.string ByteArray.empty, .int .i64 0, .int .i64 0, .int .i64 0], false⟩ := rfl
theorem r35 : E.row 35 = some ⟨.struct [(0, 9), (1, 3), (2, 3), (3, 3)], 4, 40, [.string ByteArray.empty, .int .i64 0, .int .i64 0, .int .i64 0], false⟩ := rfl
theorem r36 : E.row 36 = some ⟨.other, 1, 8, [.nilFunc], false⟩ := rfl
theorem r37 : E.row 37 = some ⟨.other, 1, 8, [.nilFunc], false⟩ := rfl
theorem r38 : E.row 38 = some ⟨.slice 42, 1, 24, [.slice none 0 0], false⟩ := rfl
theorem r40 : E.row 40 = some ⟨.other, 1, 8, [.nilFunc], false⟩ := rfl
theorem r41 : E.row 41 = some ⟨.other, 1, 8, [.nilFunc], false⟩ := rfl
theorem r42 : E.row 42 = some ⟨.struct [(0, 9), (1, 3), (2, 3), (3, 3)], 4, 40, [.string ByteArray.empty, .int .i64 0, .int .i64 0, .int .i64 0], true⟩ := rfl
theorem r43 : E.row 43 = some ⟨.other, 1, 8, [.nilFunc], false⟩ := rfl
theorem r44 : E.row 44 = some ⟨.other, 1, 8, [.nilFunc], false⟩ := rfl
theorem r45 : E.row 45 = some ⟨.other, 1, 8, [.nilFunc], false⟩ := rfl
theorem r46 : E.row 46 = some ⟨.other, 1, 8, [.nilFunc], false⟩ := rfl
theorem r47 : E.row 47 = some ⟨.other, 1, 8, [.nilFunc], false⟩ := rfl
theorem r48 : E.row 48 = some ⟨.slice 84, 1, 24, [.slice none 0 0], false⟩ := rfl
theorem r49 : E.row 49 = some ⟨.struct [(0, 9), (1, 48), (2, 48)], 3, 64, [.string ByteArray.empty, .slice none 0 0, .slice none 0 0], false⟩ := rfl
theorem r50 : E.row 50 = some ⟨.struct [(0, 9), (1, 48), (2, 48)], 3, 64, [.string ByteArray.empty, .slice none 0 0, .slice none 0 0], false⟩ := rfl
theorem r51 : E.row 51 = some ⟨.other, 1, 8, [.nilFunc], false⟩ := rfl
theorem r52 : E.row 52 = some ⟨.slice 72, 1, 24, [.slice none 0 0], false⟩ := rfl
theorem r53 : E.row 53 = some ⟨.struct [(0, 9), (1, 52), (2, 52)], 3, 64, [.string ByteArray.empty, .slice none 0 0, .slice none 0 0], false⟩ := rfl
theorem r54 : E.row 54 = some ⟨.struct [(0, 9), (1, 52), (2, 52)], 3, 64, [.string ByteArray.empty, .slice none 0 0, .slice none 0 0], false⟩ := rfl
theorem r55 : E.row 55 = some ⟨.other, 1, 8, [.nilFunc], false⟩ := rfl
theorem r56 : E.row 56 = some ⟨.other, 1, 8, [.nilFunc], false⟩ := rfl
theorem r57 : E.row 57 = some ⟨.other, 1, 8, [.nilFunc], false⟩ := rfl
theorem r58 : E.row 58 = some ⟨.other, 1, 8, [.nilFunc], false⟩ := rfl
theorem r59 : E.row 59 = some ⟨.other, 1, 8, [.nilFunc], false⟩ := rfl
theorem r60 : E.row 60 = some ⟨.other, 1, 8, [.nilFunc], false⟩ := rfl
theorem r61 : E.row 61 = some ⟨.other, 1, 8, [.nilFunc], false⟩ := rfl
theorem r62 : E.row 62 = some ⟨.other, 1, 8, [.nilFunc], false⟩ := rfl
theorem r64 : E.row 64 = some ⟨.other, 1, 8, [.nilFunc], false⟩ := rfl
theorem r65 : E.row 65 = some ⟨.other, 1, 8, [.nilFunc], false⟩ := rfl
theorem r66 : E.row 66 = some ⟨.other, 1, 8, [.nilFunc], false⟩ := rfl
theorem r67 : E.row 67 = some ⟨.other, 1, 8, [.nilFunc], false⟩ := rfl
theorem r68 : E.row 68 = some ⟨.other, 1, 8, [.nilFunc], false⟩ := rfl
theorem r69 : E.row 69 = some ⟨.other, 1, 8, [.nilFunc], false⟩ := rfl
theorem r70 : E.row 70 = some ⟨.slice 5, 1, 24, [.slice none 0 0], false⟩ := rfl
theorem r71 : E.row 71 = some ⟨.struct [(0, 3), (1, 70)], 2, 32, [.int .i64 0, .slice none 0 0], false⟩ := rfl
theorem r72 : E.row 72 = some ⟨.struct [(0, 3), (1, 70)], 2, 32, [.int .i64 0, .slice none 0 0], false⟩ := rfl
theorem r73 : E.row 73 = some ⟨.other, 1, 8, [.nilFunc], false⟩ := rfl
theorem r74 : E.row 74 = some ⟨.other, 1, 8, [.nilFunc], false⟩ := rfl
theorem r75 : E.row 75 = some ⟨.other, 1, 8, [.nilFunc], false⟩ := rfl
theorem r76 : E.row 76 = some ⟨.other, 1, 8, [.nilFunc], false⟩ := rfl
theorem r77 : E.row 77 = some ⟨.other, 1, 8, [.nilFunc], false⟩ := rfl
theorem r78 : E.row 78 = some ⟨.other, 1, 8, [.nilFunc], false⟩ := rfl
theorem r79 : E.row 79 = some ⟨.other, 1, 8, [.nilFunc], false⟩ := rfl
theorem r80 : E.row 80 = some ⟨.other, 1, 8, [.nilFunc], false⟩ := rfl
theorem r81 : E.row 81 = some ⟨.other, 1, 8, [.nilFunc], false⟩ := rfl
theorem r82 : E.row 82 = some ⟨.other, 1, 8, [.nilFunc], false⟩ := rfl
theorem r83 : E.row 83 = some ⟨.other, 1, 8, [.nilFunc], false⟩ := rfl
theorem r84 : E.row 84 = some ⟨.struct [(0, 3), (1, 70)], 2, 32, [.int .i64 0, .slice none 0 0], false⟩ := rfl
theorem r85 : E.row 85 = some ⟨.other, 1, 8, [.nilFunc], false⟩ := rfl
theorem r86 : E.row 86 = some ⟨.other, 1, 8, [.nilFunc], false⟩ := rfl
theorem r87 : E.row 87 = some ⟨.other, 1, 8, [.nilFunc], false⟩ := rfl
theorem r88 : E.row 88 = some ⟨.other, 1, 8, [.nilFunc], false⟩ := rfl
theorem r89 : E.row 89 = some ⟨.int .u64, 1, 8, [.int .u64 0], false⟩ := rfl
theorem r90 : E.row 90 = some ⟨.slice 3, 1, 24, [.slice none 0 0], false⟩ := rfl
theorem r91 : E.row 91 = some ⟨.struct [(0, 3), (1, 3), (2, 70), (3, 3), (4, 3), (5, 90)], 6, 80, [.int .i64 0, .int .i64 0, .slice none 0 0, .int .i64 0, .int .i64 0, .slice none 0 0], false⟩ := rfl
theorem r92 : E.row 92 = some ⟨.struct [(0, 3), (1, 3), (2, 70), (3, 3), (4, 3), (5, 90)], 6, 80, [.int .i64 0, .int .i64 0, .slice none 0 0, .int .i64 0, .int .i64 0, .slice none 0 0], false⟩ := rfl
theorem r94 : E.row 94 = some ⟨.other, 1, 8, [.nilFunc], false⟩ := rfl
theorem r95 : E.row 95 = some ⟨.other, 1, 8, [.nilFunc], false⟩ := rfl
theorem r96 : E.row 96 = some ⟨.other, 1, 8, [.nilFunc], false⟩ := rfl
theorem r97 : E.row 97 = some ⟨.other, 1, 8, [.nilFunc], false⟩ := rfl
theorem r98 : E.row 98 = some ⟨.other, 1, 8, [.nilFunc], false⟩ := rfl
theorem r99 : E.row 99 = some ⟨.other, 1, 8, [.nilFunc], false⟩ := rfl
theorem r100 : E.row 100 = some ⟨.array 256 4, 256, 256, List.replicate 256 (.bool false), false⟩ := rfl
theorem r101 : E.row 101 = some ⟨.array 256 4, 256, 256, List.replicate 256 (.bool false), false⟩ := rfl
theorem r103 : E.row 103 = some ⟨.other, 1, 8, [.nilFunc], false⟩ := rfl
theorem r104 : E.row 104 = some ⟨.other, 1, 8, [.nilFunc], false⟩ := rfl
theorem r105 : E.row 105 = some ⟨.pointer 101, 1, 8, [.pointer none], false⟩ := rfl
theorem r106 : E.row 106 = some ⟨.other, 1, 8, [.nilFunc], false⟩ := rfl
theorem r107 : E.row 107 = some ⟨.other, 1, 8, [.nilFunc], false⟩ := rfl
theorem r108 : E.row 108 = some ⟨.other, 1, 8, [.nilFunc], false⟩ := rfl
theorem r109 : E.row 109 = some ⟨.other, 1, 8, [.nilFunc], false⟩ := rfl
theorem r111 : E.row 111 = some ⟨.other, 1, 8, [.nilFunc], false⟩ := rfl
theorem r112 : E.row 112 = some ⟨.other, 1, 8, [.nilFunc], false⟩ := rfl
theorem r113 : E.row 113 = some ⟨.other, 1, 8, [.nilFunc], false⟩ := rfl
theorem r114 : E.row 114 = some ⟨.int .u64, 1, 8, [.int .u64 0], false⟩ := rfl
theorem r115 : E.row 115 = some ⟨.other, 1, 8, [.nilFunc], false⟩ := rfl
theorem r116 : E.row 116 = some ⟨.array 256 5, 256, 256, List.replicate 256 (.int .u8 0), false⟩ := rfl
theorem r117 : E.row 117 = some ⟨.struct [(0, 5), (1, 5)], 2, 2, [.int .u8 0, .int .u8 0], false⟩ := rfl
theorem r118 : E.row 118 = some ⟨.struct [(0, 5), (1, 5)], 2, 2, [.int .u8 0, .int .u8 0], false⟩ := rfl
theorem r119 : E.row 119 = some ⟨.array 16 118, 32, 32, [.int .u8 0, .int .u8 0, .int .u8 0, .int .u8 0, .int .u8 0, .int .u8 0, .int .u8 0, .int .u8 0, .int .u8 0, .int .u8 0, .int .u8 0, .int .u8 0, .int .u8 0, .int .u8 0, .int .u8 0, .int .u8 0, .int .u8 0, .int .u8 0, .int .u8 0, .int .u8 0, .int .u8 0, .int .u8 0, .int .u8 0, .int .u8 0, .int .u8 0, .int .u8 0, .int .u8 0, .int .u8 0, .int .u8 0, .int .u8 0, .int .u8 0, .int .u8 0], false⟩ := rfl
theorem r120 : E.row 120 = some ⟨.other, 1, 8, [.nilFunc], false⟩ := rfl
theorem r121 : E.row 121 = some ⟨.other, 1, 8, [.nilFunc], false⟩ := rfl
theorem r122 : E.row 122 = some ⟨.other, 1, 8, [.nilFunc], false⟩ := rfl
theorem r123 : E.row 123 = some ⟨.other, 1, 8, [.nilFunc], false⟩ := rfl
theorem r124 : E.row 124 = some ⟨.struct [(0, 17), (1, 17), (2, 17), (3, 9)], 4, 40, [.pointer none, .pointer none, .pointer none, .string ByteArray.empty], false⟩ := rfl
theorem r125 : E.row 125 = some ⟨.struct [(0, 17), (1, 17), (2, 17), (3, 9)], 4, 40, [.pointer none, .pointer none, .pointer none, .string ByteArray.empty], false⟩ := rfl
theorem r129 : E.row 129 = some ⟨.other, 1, 8, [.nilFunc], false⟩ := rfl
theorem r130 : E.row 130 = some ⟨.int .u32, 1, 4, [.int .u32 0], false⟩ := rfl
theorem r131 : E.row 131 = some ⟨.int .u8, 1, 1, [.int .u8 0], false⟩ := rfl
theorem r132 : E.row 132 = some ⟨.int .u8, 1, 1, [.int .u8 0], false⟩ := rfl
theorem r133 : E.row 133 = some ⟨.other, 1, 8, [.nilFunc], false⟩ := rfl
theorem r134 : E.row 134 = some ⟨.pointer 5, 1, 8, [.pointer none], false⟩ := rfl
theorem r135 : E.row 135 = some ⟨.int .i32, 1, 4, [.int .i32 0], false⟩ := rfl
theorem r136 : E.row 136 = some ⟨.int .i32, 1, 4, [.int .i32 0], false⟩ := rfl
theorem r137 : E.row 137 = some ⟨.struct [(0, 12), (1, 12), (2, 130), (3, 131), (4, 5), (5, 5), (6, 132), (7, 133), (8, 134), (9, 135), (10, 136)], 11, 48, [.int .u64 0, .int .u64 0, .int .u32 0, .int .u8 0, .int .u8 0, .int .u8 0, .int .u8 0, .nilFunc, .pointer none, .int .i32 0, .int .i32 0], false⟩ := rfl
theorem r138 : E.row 138 = some ⟨.struct [(0, 12), (1, 12), (2, 130), (3, 131), (4, 5), (5, 5), (6, 132), (7, 133), (8, 134), (9, 135), (10, 136)], 11, 48, [.int .u64 0, .int .u64 0, .int .u32 0, .int .u8 0, .int .u8 0, .int .u8 0, .int .u8 0, .nilFunc, .pointer none, .int .i32 0, .int .i32 0], false⟩ := rfl
theorem b2 : E.body 2 = some (Tryd.f2.body.getD .skip, Tryd.f2.results.toList) := rfl
theorem b3 : E.body 3 = some (Tryd.f3.body.getD .skip, Tryd.f3.results.toList) := rfl
theorem b4 : E.body 4 = some (Tryd.f4.body.getD .skip, Tryd.f4.results.toList) := rfl
theorem b5 : E.body 5 = some (Tryd.f5.body.getD .skip, Tryd.f5.results.toList) := rfl
theorem b6 : E.body 6 = some (Tryd.f6.body.getD .skip, Tryd.f6.results.toList) := rfl
theorem b7 : E.body 7 = some (Tryd.f7.body.getD .skip, Tryd.f7.results.toList) := rfl
theorem b8 : E.body 8 = some (Tryd.f8.body.getD .skip, Tryd.f8.results.toList) := rfl
theorem b9 : E.body 9 = some (Tryd.f9.body.getD .skip, Tryd.f9.results.toList) := rfl
theorem b10 : E.body 10 = some (Tryd.f10.body.getD .skip, Tryd.f10.results.toList) := rfl
theorem b11 : E.body 11 = some (Tryd.f11.body.getD .skip, Tryd.f11.results.toList) := rfl
theorem b12 : E.body 12 = some (Tryd.f12.body.getD .skip, Tryd.f12.results.toList) := rfl
theorem b13 : E.body 13 = some (Tryd.f13.body.getD .skip, Tryd.f13.results.toList) := rfl
theorem b14 : E.body 14 = some (Tryd.f14.body.getD .skip, Tryd.f14.results.toList) := rfl
theorem b15 : E.body 15 = some (Tryd.f15.body.getD .skip, Tryd.f15.results.toList) := rfl
theorem b16 : E.body 16 = some (Tryd.f16.body.getD .skip, Tryd.f16.results.toList) := rfl
theorem b17 : E.body 17 = some (Tryd.f17.body.getD .skip, Tryd.f17.results.toList) := rfl
theorem b18 : E.body 18 = some (Tryd.f18.body.getD .skip, Tryd.f18.results.toList) := rfl
theorem b19 : E.body 19 = some (Tryd.f19.body.getD .skip, Tryd.f19.results.toList) := rfl
theorem b20 : E.body 20 = some (Tryd.f20.body.getD .skip, Tryd.f20.results.toList) := rfl
theorem b21 : E.body 21 = some (Tryd.f21.body.getD .skip, Tryd.f21.results.toList) := rfl
theorem b22 : E.body 22 = some (Tryd.f22.body.getD .skip, Tryd.f22.results.toList) := rfl
theorem b23 : E.body 23 = some (Tryd.f23.body.getD .skip, Tryd.f23.results.toList) := rfl
theorem b24 : E.body 24 = some (Tryd.f24.body.getD .skip, Tryd.f24.results.toList) := rfl
theorem b25 : E.body 25 = some (Tryd.f25.body.getD .skip, Tryd.f25.results.toList) := rfl
theorem b26 : E.body 26 = some (Tryd.f26.body.getD .skip, Tryd.f26.results.toList) := rfl
theorem b27 : E.body 27 = some (Tryd.f27.body.getD .skip, Tryd.f27.results.toList) := rfl
theorem b28 : E.body 28 = some (Tryd.f28.body.getD .skip, Tryd.f28.results.toList) := rfl
theorem b29 : E.body 29 = some (Tryd.f29.body.getD .skip, Tryd.f29.results.toList) := rfl
theorem b30 : E.body 30 = some (Tryd.f30.body.getD .skip, Tryd.f30.results.toList) := rfl
theorem b31 : E.body 31 = some (Tryd.f31.body.getD .skip, Tryd.f31.results.toList) := rfl
theorem b32 : E.body 32 = some (Tryd.f32.body.getD .skip, Tryd.f32.results.toList) := rfl
theorem b33 : E.body 33 = some (Tryd.f33.body.getD .skip, Tryd.f33.results.toList) := rfl
theorem b34 : E.body 34 = some (Tryd.f34.body.getD .skip, Tryd.f34.results.toList) := rfl
theorem b35 : E.body 35 = some (Tryd.f35.body.getD .skip, Tryd.f35.results.toList) := rfl
theorem b36 : E.body 36 = some (Tryd.f36.body.getD .skip, Tryd.f36.results.toList) := rfl
theorem b37 : E.body 37 = some (Tryd.f37.body.getD .skip, Tryd.f37.results.toList) := rfl
theorem b38 : E.body 38 = some (Tryd.f38.body.getD .skip, Tryd.f38.results.toList) := rfl
theorem b39 : E.body 39 = some (Tryd.f39.body.getD .skip, Tryd.f39.results.toList) := rfl
theorem b40 : E.body 40 = some (Tryd.f40.body.getD .skip, Tryd.f40.results.toList) := rfl
theorem b41 : E.body 41 = some (Tryd.f41.body.getD .skip, Tryd.f41.results.toList) := rfl
theorem b42 : E.body 42 = some (Tryd.f42.body.getD .skip, Tryd.f42.results.toList) := rfl
theorem b43 : E.body 43 = some (Tryd.f43.body.getD .skip, Tryd.f43.results.toList) := rfl
theorem b44 : E.body 44 = some (Tryd.f44.body.getD .skip, Tryd.f44.results.toList) := rfl
theorem b45 : E.body 45 = some (Tryd.f45.body.getD .skip, Tryd.f45.results.toList) := rfl
theorem b46 : E.body 46 = some (Tryd.f46.body.getD .skip, Tryd.f46.results.toList) := rfl
theorem b47 : E.body 47 = some (Tryd.f47.body.getD .skip, Tryd.f47.results.toList) := rfl
theorem b48 : E.body 48 = some (Tryd.f48.body.getD .skip, Tryd.f48.results.toList) := rfl
theorem b49 : E.body 49 = some (Tryd.f49.body.getD .skip, Tryd.f49.results.toList) := rfl
theorem b50 : E.body 50 = some (Tryd.f50.body.getD .skip, Tryd.f50.results.toList) := rfl
theorem b51 : E.body 51 = some (Tryd.f51.body.getD .skip, Tryd.f51.results.toList) := rfl
theorem b52 : E.body 52 = some (Tryd.f52.body.getD .skip, Tryd.f52.results.toList) := rfl
theorem b53 : E.body 53 = some (Tryd.f53.body.getD .skip, Tryd.f53.results.toList) := rfl
theorem b55 : E.body 55 = some (Tryd.f55.body.getD .skip, Tryd.f55.results.toList) := rfl
theorem b56 : E.body 56 = some (Tryd.f56.body.getD .skip, Tryd.f56.results.toList) := rfl
theorem b57 : E.body 57 = some (Tryd.f57.body.getD .skip, Tryd.f57.results.toList) := rfl
theorem b58 : E.body 58 = some (Tryd.f58.body.getD .skip, Tryd.f58.results.toList) := rfl
theorem b59 : E.body 59 = some (Tryd.f59.body.getD .skip, Tryd.f59.results.toList) := rfl
theorem b60 : E.body 60 = some (Tryd.f60.body.getD .skip, Tryd.f60.results.toList) := rfl
theorem b61 : E.body 61 = some (Tryd.f61.body.getD .skip, Tryd.f61.results.toList) := rfl
theorem b62 : E.body 62 = some (Tryd.f62.body.getD .skip, Tryd.f62.results.toList) := rfl
theorem b63 : E.body 63 = some (Tryd.f63.body.getD .skip, Tryd.f63.results.toList) := rfl
theorem b64 : E.body 64 = some (Tryd.f64.body.getD .skip, Tryd.f64.results.toList) := rfl
theorem b65 : E.body 65 = some (Tryd.f65.body.getD .skip, Tryd.f65.results.toList) := rfl
theorem b66 : E.body 66 = some (Tryd.f66.body.getD .skip, Tryd.f66.results.toList) := rfl
theorem b67 : E.body 67 = some (Tryd.f67.body.getD .skip, Tryd.f67.results.toList) := rfl
theorem b68 : E.body 68 = some (Tryd.f68.body.getD .skip, Tryd.f68.results.toList) := rfl
theorem b69 : E.body 69 = some (Tryd.f69.body.getD .skip, Tryd.f69.results.toList) := rfl
theorem b70 : E.body 70 = some (Tryd.f70.body.getD .skip, Tryd.f70.results.toList) := rfl
theorem b71 : E.body 71 = some (Tryd.f71.body.getD .skip, Tryd.f71.results.toList) := rfl
theorem b72 : E.body 72 = some (Tryd.f72.body.getD .skip, Tryd.f72.results.toList) := rfl
theorem b73 : E.body 73 = some (Tryd.f73.body.getD .skip, Tryd.f73.results.toList) := rfl
theorem b74 : E.body 74 = some (Tryd.f74.body.getD .skip, Tryd.f74.results.toList) := rfl
theorem b75 : E.body 75 = some (Tryd.f75.body.getD .skip, Tryd.f75.results.toList) := rfl
theorem b76 : E.body 76 = some (Tryd.f76.body.getD .skip, Tryd.f76.results.toList) := rfl
theorem b77 : E.body 77 = some (Tryd.f77.body.getD .skip, Tryd.f77.results.toList) := rfl
theorem b78 : E.body 78 = some (Tryd.f78.body.getD .skip, Tryd.f78.results.toList) := rfl
theorem b80 : E.body 80 = some (Tryd.f80.body.getD .skip, Tryd.f80.results.toList) := rfl
theorem b81 : E.body 81 = some (Tryd.f81.body.getD .skip, Tryd.f81.results.toList) := rfl
theorem b82 : E.body 82 = some (Tryd.f82.body.getD .skip, Tryd.f82.results.toList) := rfl
theorem b83 : E.body 83 = some (Tryd.f83.body.getD .skip, Tryd.f83.results.toList) := rfl
theorem b84 : E.body 84 = some (Tryd.f84.body.getD .skip, Tryd.f84.results.toList) := rfl
theorem b85 : E.body 85 = some (Tryd.f85.body.getD .skip, Tryd.f85.results.toList) := rfl
theorem b86 : E.body 86 = some (Tryd.f86.body.getD .skip, Tryd.f86.results.toList) := rfl
theorem b87 : E.body 87 = some (Tryd.f87.body.getD .skip, Tryd.f87.results.toList) := rfl
theorem b88 : E.body 88 = some (Tryd.f88.body.getD .skip, Tryd.f88.results.toList) := rfl
theorem b89 : E.body 89 = some (Tryd.f89.body.getD .skip, Tryd.f89.results.toList) := rfl
theorem b90 : E.body 90 = some (Tryd.f90.body.getD .skip, Tryd.f90.results.toList) := rfl
theorem b91 : E.body 91 = some (Tryd.f91.body.getD .skip, Tryd.f91.results.toList) := rfl
theorem b93 : E.body 93 = some (Tryd.f93.body.getD .skip, Tryd.f93.results.toList) := rfl
theorem b94 : E.body 94 = some (Tryd.f94.body.getD .skip, Tryd.f94.results.toList) := rfl
theorem b95 : E.body 95 = some (Tryd.f95.body.getD .skip, Tryd.f95.results.toList) := rfl
theorem b96 : E.body 96 = some (Tryd.f96.body.getD .skip, Tryd.f96.results.toList) := rfl
theorem b97 : E.body 97 = some (Tryd.f97.body.getD .skip, Tryd.f97.results.toList) := rfl
theorem b98 : E.body 98 = some (Tryd.f98.body.getD .skip, Tryd.f98.results.toList) := rfl
theorem b100 : E.body 100 = some (Tryd.f100.body.getD .skip, Tryd.f100.results.toList) := rfl
theorem b122 : E.body 122 = some (Tryd.f122.body.getD .skip, Tryd.f122.results.toList) := rfl
theorem lv5_5 : E.live 5 5 = [0, 1, 5] := rfl
theorem lv6_3 : E.live 6 3 = [0, 3, 4] := rfl
theorem lv7_3 : E.live 7 3 = [0, 3, 4] := rfl
theorem lv8_5 : E.live 8 5 = [3, 10, 11, 12] := rfl
theorem lv9_4 : E.live 9 4 = [0, 1, 5] := rfl
theorem lv10_4 : E.live 10 4 = [0, 1, 5] := rfl
theorem lv11_2 : E.live 11 2 = [0, 1, 5] := rfl
theorem lv12_2 : E.live 12 2 = [0, 1, 5] := rfl
theorem lv13_2 : E.live 13 2 = [0, 1, 5] := rfl
theorem lv14_5 : E.live 14 5 = [0, 1, 5] := rfl
theorem lv16_11 : E.live 16 11 = [3, 6, 8] := rfl
theorem lv17_3 : E.live 17 3 = [0, 3, 4] := rfl
theorem lv20_4 : E.live 20 4 = [0, 1, 5] := rfl
theorem lv21_2 : E.live 21 2 = [0, 1, 5] := rfl
theorem lv22_2 : E.live 22 2 = [0, 1, 5] := rfl
theorem lv24_2 : E.live 24 2 = [0, 3] := rfl
theorem lv26_2 : E.live 26 2 = [0, 5, 6, 7] := rfl
theorem lv28_4 : E.live 28 4 = [0, 3] := rfl
theorem lv29_2 : E.live 29 2 = [0, 1, 5] := rfl
theorem lv31_2 : E.live 31 2 = [0, 3] := rfl
theorem lv33_2 : E.live 33 2 = [0, 1, 5] := rfl
theorem lv35_2 : E.live 35 2 = [0, 5, 6, 7] := rfl
theorem lv40_5 : E.live 40 5 = [0, 1, 5] := rfl
theorem lv41_2 : E.live 41 2 = [0, 3] := rfl
theorem lv42_2 : E.live 42 2 = [0, 3] := rfl
theorem lv43_3 : E.live 43 3 = [0, 3, 4] := rfl
theorem lv45_4 : E.live 45 4 = [0, 1, 5] := rfl
theorem lv46_2 : E.live 46 2 = [0, 1, 5] := rfl
theorem lv51_3 : E.live 51 3 = [0, 1, 2, 8, 9, 10] := rfl
theorem lv66_20 : E.live 66 20 = [0, 2, 4, 5, 8, 9] := rfl
theorem lv67_3 : E.live 67 3 = [0, 3, 4] := rfl
theorem lv71_4 : E.live 71 4 = [0, 1, 5] := rfl
theorem lv72_1 : E.live 72 1 = [0, 1] := rfl
theorem lv73_1 : E.live 73 1 = [0, 1] := rfl
theorem lv74_2 : E.live 74 2 = [0, 2, 4] := rfl
theorem lv75_1 : E.live 75 1 = [0, 1] := rfl
theorem lv76_1 : E.live 76 1 = [0, 1] := rfl
theorem lv77_1 : E.live 77 1 = [0, 1] := rfl
theorem lv78_1 : E.live 78 1 = [0, 1] := rfl
theorem lv80_1 : E.live 80 1 = [0, 2, 3] := rfl
theorem lv81_3 : E.live 81 3 = [0, 4, 5] := rfl
theorem lv83_2 : E.live 83 2 = [0, 1, 7, 8] := rfl
theorem lv89_10 : E.live 89 10 = [0, 4, 5, 6] := rfl
theorem lv90_4 : E.live 90 4 = [0, 2, 4, 5, 6, 7, 25, 26] := rfl
theorem lv94_3 : E.live 94 3 = [3, 6, 7, 8] := rfl
theorem ld2 : E.lend 2 = [] := rfl
theorem ld3 : E.lend 3 = [] := rfl
theorem ld4 : E.lend 4 = [] := rfl
theorem ld5 : E.lend 5 = [] := rfl
theorem ld6 : E.lend 6 = [] := rfl
theorem ld7 : E.lend 7 = [] := rfl
theorem ld8 : E.lend 8 = [] := rfl
theorem ld9 : E.lend 9 = [] := rfl
theorem ld10 : E.lend 10 = [] := rfl
theorem ld11 : E.lend 11 = [true, false] := rfl
theorem ld12 : E.lend 12 = [true, false] := rfl
theorem ld13 : E.lend 13 = [] := rfl
theorem ld14 : E.lend 14 = [] := rfl
theorem ld15 : E.lend 15 = [] := rfl
theorem ld16 : E.lend 16 = [] := rfl
theorem ld17 : E.lend 17 = [] := rfl
theorem ld18 : E.lend 18 = [] := rfl
theorem ld19 : E.lend 19 = [] := rfl
theorem ld20 : E.lend 20 = [] := rfl
theorem ld21 : E.lend 21 = [true, false] := rfl
theorem ld22 : E.lend 22 = [] := rfl
theorem ld23 : E.lend 23 = [] := rfl
theorem ld24 : E.lend 24 = [] := rfl
theorem ld25 : E.lend 25 = [] := rfl
theorem ld26 : E.lend 26 = [] := rfl
theorem ld27 : E.lend 27 = [] := rfl
theorem ld28 : E.lend 28 = [true, false] := rfl
theorem ld29 : E.lend 29 = [true, false] := rfl
theorem ld30 : E.lend 30 = [] := rfl
theorem ld31 : E.lend 31 = [] := rfl
theorem ld32 : E.lend 32 = [] := rfl
theorem ld33 : E.lend 33 = [] := rfl
theorem ld34 : E.lend 34 = [] := rfl
theorem ld35 : E.lend 35 = [] := rfl
theorem ld36 : E.lend 36 = [] := rfl
theorem ld37 : E.lend 37 = [] := rfl
theorem ld38 : E.lend 38 = [true] := rfl
theorem ld39 : E.lend 39 = [] := rfl
theorem ld40 : E.lend 40 = [] := rfl
theorem ld41 : E.lend 41 = [] := rfl
theorem ld42 : E.lend 42 = [] := rfl
theorem ld43 : E.lend 43 = [] := rfl
theorem ld44 : E.lend 44 = [] := rfl
theorem ld45 : E.lend 45 = [] := rfl
theorem ld46 : E.lend 46 = [true, false] := rfl
theorem ld47 : E.lend 47 = [] := rfl
theorem ld48 : E.lend 48 = [] := rfl
theorem ld49 : E.lend 49 = [] := rfl
theorem ld50 : E.lend 50 = [] := rfl
theorem ld51 : E.lend 51 = [] := rfl
theorem ld52 : E.lend 52 = [] := rfl
theorem ld53 : E.lend 53 = [] := rfl
theorem ld55 : E.lend 55 = [] := rfl
theorem ld56 : E.lend 56 = [] := rfl
theorem ld57 : E.lend 57 = [] := rfl
theorem ld58 : E.lend 58 = [] := rfl
theorem ld59 : E.lend 59 = [] := rfl
theorem ld60 : E.lend 60 = [] := rfl
theorem ld61 : E.lend 61 = [] := rfl
theorem ld62 : E.lend 62 = [] := rfl
theorem ld63 : E.lend 63 = [] := rfl
theorem ld64 : E.lend 64 = [] := rfl
theorem ld65 : E.lend 65 = [] := rfl
theorem ld66 : E.lend 66 = [] := rfl
theorem ld67 : E.lend 67 = [] := rfl
theorem ld68 : E.lend 68 = [] := rfl
theorem ld69 : E.lend 69 = [] := rfl
theorem ld70 : E.lend 70 = [] := rfl
theorem ld71 : E.lend 71 = [] := rfl
theorem ld72 : E.lend 72 = [] := rfl
theorem ld73 : E.lend 73 = [] := rfl
theorem ld74 : E.lend 74 = [] := rfl
theorem ld75 : E.lend 75 = [false, true] := rfl
theorem ld76 : E.lend 76 = [false, true] := rfl
theorem ld77 : E.lend 77 = [] := rfl
theorem ld78 : E.lend 78 = [] := rfl
theorem ld80 : E.lend 80 = [] := rfl
theorem ld81 : E.lend 81 = [] := rfl
theorem ld82 : E.lend 82 = [] := rfl
theorem ld83 : E.lend 83 = [] := rfl
theorem ld84 : E.lend 84 = [] := rfl
theorem ld85 : E.lend 85 = [] := rfl
theorem ld86 : E.lend 86 = [true, false] := rfl
theorem ld87 : E.lend 87 = [] := rfl
theorem ld88 : E.lend 88 = [] := rfl
theorem ld89 : E.lend 89 = [] := rfl
theorem ld90 : E.lend 90 = [] := rfl
theorem ld91 : E.lend 91 = [] := rfl
theorem ld93 : E.lend 93 = [] := rfl
theorem ld94 : E.lend 94 = [] := rfl
theorem ld95 : E.lend 95 = [] := rfl
theorem ld96 : E.lend 96 = [] := rfl
theorem ld97 : E.lend 97 = [] := rfl
theorem ld98 : E.lend 98 = [] := rfl
theorem ld100 : E.lend 100 = [] := rfl
theorem ld122 : E.lend 122 = [] := rfl
theorem bf2 : E.boxf 2 = false := rfl
theorem bf3 : E.boxf 3 = false := rfl
theorem bf4 : E.boxf 4 = false := rfl
theorem bf5 : E.boxf 5 = false := rfl
theorem bf6 : E.boxf 6 = false := rfl
theorem bf7 : E.boxf 7 = false := rfl
theorem bf8 : E.boxf 8 = false := rfl
theorem bf9 : E.boxf 9 = false := rfl
theorem bf10 : E.boxf 10 = false := rfl
theorem bf11 : E.boxf 11 = false := rfl
theorem bf12 : E.boxf 12 = false := rfl
theorem bf13 : E.boxf 13 = false := rfl
theorem bf14 : E.boxf 14 = false := rfl
theorem bf15 : E.boxf 15 = false := rfl
theorem bf16 : E.boxf 16 = false := rfl
theorem bf17 : E.boxf 17 = false := rfl
theorem bf18 : E.boxf 18 = false := rfl
theorem bf19 : E.boxf 19 = false := rfl
theorem bf20 : E.boxf 20 = false := rfl
theorem bf21 : E.boxf 21 = false := rfl
theorem bf22 : E.boxf 22 = false := rfl
theorem bf23 : E.boxf 23 = false := rfl
theorem bf24 : E.boxf 24 = false := rfl
theorem bf25 : E.boxf 25 = false := rfl
theorem bf26 : E.boxf 26 = false := rfl
theorem bf27 : E.boxf 27 = false := rfl
theorem bf28 : E.boxf 28 = false := rfl
theorem bf29 : E.boxf 29 = false := rfl
theorem bf30 : E.boxf 30 = false := rfl
theorem bf31 : E.boxf 31 = false := rfl
theorem bf32 : E.boxf 32 = false := rfl
theorem bf33 : E.boxf 33 = false := rfl
theorem bf34 : E.boxf 34 = false := rfl
theorem bf35 : E.boxf 35 = false := rfl
theorem bf36 : E.boxf 36 = false := rfl
theorem bf37 : E.boxf 37 = false := rfl
theorem bf38 : E.boxf 38 = false := rfl
theorem bf39 : E.boxf 39 = false := rfl
theorem bf40 : E.boxf 40 = false := rfl
theorem bf41 : E.boxf 41 = false := rfl
theorem bf42 : E.boxf 42 = false := rfl
theorem bf43 : E.boxf 43 = false := rfl
theorem bf44 : E.boxf 44 = false := rfl
theorem bf45 : E.boxf 45 = false := rfl
theorem bf46 : E.boxf 46 = false := rfl
theorem bf47 : E.boxf 47 = false := rfl
theorem bf48 : E.boxf 48 = false := rfl
theorem bf49 : E.boxf 49 = false := rfl
theorem bf50 : E.boxf 50 = false := rfl
theorem bf51 : E.boxf 51 = false := rfl
theorem bf52 : E.boxf 52 = false := rfl
theorem bf53 : E.boxf 53 = false := rfl
theorem bf55 : E.boxf 55 = false := rfl
theorem bf56 : E.boxf 56 = false := rfl
theorem bf57 : E.boxf 57 = false := rfl
theorem bf58 : E.boxf 58 = false := rfl
theorem bf59 : E.boxf 59 = false := rfl
theorem bf60 : E.boxf 60 = false := rfl
theorem bf61 : E.boxf 61 = false := rfl
theorem bf62 : E.boxf 62 = false := rfl
theorem bf63 : E.boxf 63 = false := rfl
theorem bf64 : E.boxf 64 = false := rfl
theorem bf65 : E.boxf 65 = false := rfl
theorem bf66 : E.boxf 66 = false := rfl
theorem bf67 : E.boxf 67 = false := rfl
theorem bf68 : E.boxf 68 = false := rfl
theorem bf69 : E.boxf 69 = false := rfl
theorem bf70 : E.boxf 70 = false := rfl
theorem bf71 : E.boxf 71 = false := rfl
theorem bf72 : E.boxf 72 = false := rfl
theorem bf73 : E.boxf 73 = false := rfl
theorem bf74 : E.boxf 74 = false := rfl
theorem bf75 : E.boxf 75 = false := rfl
theorem bf76 : E.boxf 76 = false := rfl
theorem bf77 : E.boxf 77 = false := rfl
theorem bf78 : E.boxf 78 = false := rfl
theorem bf80 : E.boxf 80 = false := rfl
theorem bf81 : E.boxf 81 = false := rfl
theorem bf82 : E.boxf 82 = false := rfl
theorem bf83 : E.boxf 83 = false := rfl
theorem bf84 : E.boxf 84 = false := rfl
theorem bf85 : E.boxf 85 = false := rfl
theorem bf86 : E.boxf 86 = false := rfl
theorem bf87 : E.boxf 87 = false := rfl
theorem bf88 : E.boxf 88 = false := rfl
theorem bf89 : E.boxf 89 = false := rfl
theorem bf90 : E.boxf 90 = false := rfl
theorem bf91 : E.boxf 91 = false := rfl
theorem bf93 : E.boxf 93 = false := rfl
theorem bf94 : E.boxf 94 = false := rfl
theorem bf95 : E.boxf 95 = false := rfl
theorem bf96 : E.boxf 96 = false := rfl
theorem bf97 : E.boxf 97 = false := rfl
theorem bf98 : E.boxf 98 = false := rfl
theorem bf100 : E.boxf 100 = false := rfl
theorem bf122 : E.boxf 122 = false := rfl
theorem nf2 : E.notef 2 = false := rfl
theorem nf3 : E.notef 3 = false := rfl
theorem nf4 : E.notef 4 = false := rfl
theorem nf5 : E.notef 5 = false := rfl
theorem nf6 : E.notef 6 = false := rfl
theorem nf7 : E.notef 7 = false := rfl
theorem nf8 : E.notef 8 = false := rfl
theorem nf9 : E.notef 9 = false := rfl
theorem nf10 : E.notef 10 = false := rfl
theorem nf11 : E.notef 11 = false := rfl
theorem nf12 : E.notef 12 = false := rfl
theorem nf13 : E.notef 13 = false := rfl
theorem nf14 : E.notef 14 = false := rfl
theorem nf15 : E.notef 15 = false := rfl
theorem nf16 : E.notef 16 = false := rfl
theorem nf17 : E.notef 17 = false := rfl
theorem nf18 : E.notef 18 = false := rfl
theorem nf19 : E.notef 19 = false := rfl
theorem nf20 : E.notef 20 = false := rfl
theorem nf21 : E.notef 21 = false := rfl
theorem nf22 : E.notef 22 = false := rfl
theorem nf23 : E.notef 23 = false := rfl
theorem nf24 : E.notef 24 = false := rfl
theorem nf25 : E.notef 25 = false := rfl
theorem nf26 : E.notef 26 = false := rfl
theorem nf27 : E.notef 27 = false := rfl
theorem nf28 : E.notef 28 = false := rfl
theorem nf29 : E.notef 29 = false := rfl
theorem nf30 : E.notef 30 = false := rfl
theorem nf31 : E.notef 31 = false := rfl
theorem nf32 : E.notef 32 = false := rfl
theorem nf33 : E.notef 33 = false := rfl
theorem nf34 : E.notef 34 = false := rfl
theorem nf35 : E.notef 35 = false := rfl
theorem nf36 : E.notef 36 = false := rfl
theorem nf37 : E.notef 37 = false := rfl
theorem nf38 : E.notef 38 = false := rfl
theorem nf39 : E.notef 39 = false := rfl
theorem nf40 : E.notef 40 = false := rfl
theorem nf41 : E.notef 41 = false := rfl
theorem nf42 : E.notef 42 = false := rfl
theorem nf43 : E.notef 43 = false := rfl
theorem nf44 : E.notef 44 = false := rfl
theorem nf45 : E.notef 45 = false := rfl
theorem nf46 : E.notef 46 = false := rfl
theorem nf47 : E.notef 47 = false := rfl
theorem nf48 : E.notef 48 = false := rfl
theorem nf49 : E.notef 49 = false := rfl
theorem nf50 : E.notef 50 = false := rfl
theorem nf51 : E.notef 51 = false := rfl
theorem nf52 : E.notef 52 = false := rfl
theorem nf53 : E.notef 53 = false := rfl
theorem nf55 : E.notef 55 = false := rfl
theorem nf56 : E.notef 56 = false := rfl
theorem nf57 : E.notef 57 = false := rfl
theorem nf58 : E.notef 58 = false := rfl
theorem nf59 : E.notef 59 = false := rfl
theorem nf60 : E.notef 60 = false := rfl
theorem nf61 : E.notef 61 = false := rfl
theorem nf62 : E.notef 62 = false := rfl
theorem nf63 : E.notef 63 = false := rfl
theorem nf64 : E.notef 64 = false := rfl
theorem nf65 : E.notef 65 = false := rfl
theorem nf66 : E.notef 66 = false := rfl
theorem nf67 : E.notef 67 = false := rfl
theorem nf68 : E.notef 68 = false := rfl
theorem nf69 : E.notef 69 = false := rfl
theorem nf70 : E.notef 70 = false := rfl
theorem nf71 : E.notef 71 = false := rfl
theorem nf72 : E.notef 72 = false := rfl
theorem nf73 : E.notef 73 = false := rfl
theorem nf74 : E.notef 74 = false := rfl
theorem nf75 : E.notef 75 = false := rfl
theorem nf76 : E.notef 76 = false := rfl
theorem nf77 : E.notef 77 = false := rfl
theorem nf78 : E.notef 78 = false := rfl
theorem nf80 : E.notef 80 = false := rfl
theorem nf81 : E.notef 81 = false := rfl
theorem nf82 : E.notef 82 = false := rfl
theorem nf83 : E.notef 83 = false := rfl
theorem nf84 : E.notef 84 = false := rfl
theorem nf85 : E.notef 85 = false := rfl
theorem nf86 : E.notef 86 = false := rfl
theorem nf87 : E.notef 87 = false := rfl
theorem nf88 : E.notef 88 = false := rfl
theorem nf89 : E.notef 89 = false := rfl
theorem nf90 : E.notef 90 = true := rfl
theorem nf91 : E.notef 91 = false := rfl
theorem nf93 : E.notef 93 = false := rfl
theorem nf94 : E.notef 94 = false := rfl
theorem nf95 : E.notef 95 = false := rfl
theorem nf96 : E.notef 96 = false := rfl
theorem nf97 : E.notef 97 = false := rfl
theorem nf98 : E.notef 98 = false := rfl
theorem nf100 : E.notef 100 = false := rfl
theorem nf122 : E.notef 122 = false := rfl
theorem dp2 : E.deep 2 = false := rfl
theorem dp3 : E.deep 3 = false := rfl
theorem dp4 : E.deep 4 = false := rfl
theorem dp5 : E.deep 5 = false := rfl
theorem dp6 : E.deep 6 = false := rfl
theorem dp7 : E.deep 7 = false := rfl
theorem dp8 : E.deep 8 = false := rfl
theorem dp9 : E.deep 9 = false := rfl
theorem dp10 : E.deep 10 = false := rfl
theorem dp11 : E.deep 11 = true := rfl
theorem dp12 : E.deep 12 = false := rfl
theorem dp13 : E.deep 13 = false := rfl
theorem dp14 : E.deep 14 = false := rfl
theorem dp15 : E.deep 15 = false := rfl
theorem dp16 : E.deep 16 = false := rfl
theorem dp17 : E.deep 17 = false := rfl
theorem dp18 : E.deep 18 = false := rfl
theorem dp19 : E.deep 19 = false := rfl
theorem dp20 : E.deep 20 = false := rfl
theorem dp21 : E.deep 21 = false := rfl
theorem dp22 : E.deep 22 = false := rfl
theorem dp23 : E.deep 23 = false := rfl
theorem dp24 : E.deep 24 = false := rfl
theorem dp25 : E.deep 25 = false := rfl
theorem dp26 : E.deep 26 = false := rfl
theorem dp27 : E.deep 27 = false := rfl
theorem dp28 : E.deep 28 = false := rfl
theorem dp29 : E.deep 29 = true := rfl
theorem dp30 : E.deep 30 = false := rfl
theorem dp31 : E.deep 31 = false := rfl
theorem dp32 : E.deep 32 = false := rfl
theorem dp33 : E.deep 33 = false := rfl
theorem dp34 : E.deep 34 = false := rfl
theorem dp35 : E.deep 35 = false := rfl
theorem dp36 : E.deep 36 = false := rfl
theorem dp37 : E.deep 37 = false := rfl
theorem dp38 : E.deep 38 = false := rfl
theorem dp39 : E.deep 39 = false := rfl
theorem dp40 : E.deep 40 = false := rfl
theorem dp41 : E.deep 41 = false := rfl
theorem dp42 : E.deep 42 = false := rfl
theorem dp43 : E.deep 43 = false := rfl
theorem dp44 : E.deep 44 = false := rfl
theorem dp45 : E.deep 45 = false := rfl
theorem dp46 : E.deep 46 = false := rfl
theorem dp47 : E.deep 47 = false := rfl
theorem dp48 : E.deep 48 = false := rfl
theorem dp49 : E.deep 49 = false := rfl
theorem dp50 : E.deep 50 = false := rfl
theorem dp51 : E.deep 51 = false := rfl
theorem dp52 : E.deep 52 = false := rfl
theorem dp53 : E.deep 53 = false := rfl
theorem dp55 : E.deep 55 = false := rfl
theorem dp56 : E.deep 56 = false := rfl
theorem dp57 : E.deep 57 = false := rfl
theorem dp58 : E.deep 58 = false := rfl
theorem dp59 : E.deep 59 = false := rfl
theorem dp60 : E.deep 60 = false := rfl
theorem dp61 : E.deep 61 = false := rfl
theorem dp62 : E.deep 62 = false := rfl
theorem dp63 : E.deep 63 = false := rfl
theorem dp64 : E.deep 64 = false := rfl
theorem dp65 : E.deep 65 = false := rfl
theorem dp66 : E.deep 66 = false := rfl
theorem dp67 : E.deep 67 = false := rfl
theorem dp68 : E.deep 68 = false := rfl
theorem dp69 : E.deep 69 = false := rfl
theorem dp70 : E.deep 70 = false := rfl
theorem dp71 : E.deep 71 = false := rfl
theorem dp72 : E.deep 72 = false := rfl
theorem dp73 : E.deep 73 = false := rfl
theorem dp74 : E.deep 74 = false := rfl
theorem dp75 : E.deep 75 = false := rfl
theorem dp76 : E.deep 76 = false := rfl
theorem dp77 : E.deep 77 = false := rfl
theorem dp78 : E.deep 78 = false := rfl
theorem dp80 : E.deep 80 = false := rfl
theorem dp81 : E.deep 81 = false := rfl
theorem dp82 : E.deep 82 = false := rfl
theorem dp83 : E.deep 83 = false := rfl
theorem dp84 : E.deep 84 = false := rfl
theorem dp85 : E.deep 85 = false := rfl
theorem dp86 : E.deep 86 = false := rfl
theorem dp87 : E.deep 87 = false := rfl
theorem dp88 : E.deep 88 = false := rfl
theorem dp89 : E.deep 89 = false := rfl
theorem dp90 : E.deep 90 = false := rfl
theorem dp91 : E.deep 91 = false := rfl
theorem dp93 : E.deep 93 = false := rfl
theorem dp94 : E.deep 94 = false := rfl
theorem dp95 : E.deep 95 = false := rfl
theorem dp96 : E.deep 96 = false := rfl
theorem dp97 : E.deep 97 = false := rfl
theorem dp98 : E.deep 98 = false := rfl
theorem dp100 : E.deep 100 = false := rfl
theorem dp122 : E.deep 122 = false := rfl
theorem ld54 : E.lend 54 = [false, true] := rfl
theorem dp54 : E.deep 54 = false := rfl
theorem is54 : E.insf 54 = none := rfl
theorem ld79 : E.lend 79 = [] := rfl
theorem dp79 : E.deep 79 = false := rfl
theorem is79 : E.insf 79 = none := rfl
theorem is2 : E.insf 2 = none := rfl
theorem is3 : E.insf 3 = none := rfl
theorem is4 : E.insf 4 = none := rfl
theorem is5 : E.insf 5 = none := rfl
theorem is6 : E.insf 6 = none := rfl
theorem is7 : E.insf 7 = none := rfl
theorem is8 : E.insf 8 = none := rfl
theorem is9 : E.insf 9 = none := rfl
theorem is10 : E.insf 10 = none := rfl
theorem is11 : E.insf 11 = none := rfl
theorem is12 : E.insf 12 = none := rfl
theorem is13 : E.insf 13 = none := rfl
theorem is14 : E.insf 14 = none := rfl
theorem is15 : E.insf 15 = none := rfl
theorem is16 : E.insf 16 = none := rfl
theorem is17 : E.insf 17 = none := rfl
theorem is18 : E.insf 18 = none := rfl
theorem is19 : E.insf 19 = none := rfl
theorem is20 : E.insf 20 = none := rfl
theorem is21 : E.insf 21 = none := rfl
theorem is22 : E.insf 22 = none := rfl
theorem is23 : E.insf 23 = none := rfl
theorem is24 : E.insf 24 = none := rfl
theorem is25 : E.insf 25 = none := rfl
theorem is26 : E.insf 26 = none := rfl
theorem is27 : E.insf 27 = none := rfl
theorem is28 : E.insf 28 = none := rfl
theorem is29 : E.insf 29 = none := rfl
theorem is30 : E.insf 30 = none := rfl
theorem is31 : E.insf 31 = none := rfl
theorem is32 : E.insf 32 = none := rfl
theorem is33 : E.insf 33 = none := rfl
theorem is34 : E.insf 34 = none := rfl
theorem is35 : E.insf 35 = none := rfl
theorem is36 : E.insf 36 = none := rfl
theorem is37 : E.insf 37 = none := rfl
theorem is38 : E.insf 38 = some 4 := rfl
theorem is39 : E.insf 39 = none := rfl
theorem is40 : E.insf 40 = none := rfl
theorem is41 : E.insf 41 = none := rfl
theorem is42 : E.insf 42 = none := rfl
theorem is43 : E.insf 43 = none := rfl
theorem is44 : E.insf 44 = none := rfl
theorem is45 : E.insf 45 = none := rfl
theorem is46 : E.insf 46 = none := rfl
theorem is47 : E.insf 47 = none := rfl
theorem is48 : E.insf 48 = none := rfl
theorem is49 : E.insf 49 = none := rfl
theorem is50 : E.insf 50 = none := rfl
theorem is51 : E.insf 51 = none := rfl
theorem is52 : E.insf 52 = none := rfl
theorem is53 : E.insf 53 = none := rfl
theorem is55 : E.insf 55 = none := rfl
theorem is56 : E.insf 56 = none := rfl
theorem is57 : E.insf 57 = none := rfl
theorem is58 : E.insf 58 = none := rfl
theorem is59 : E.insf 59 = none := rfl
theorem is60 : E.insf 60 = none := rfl
theorem is61 : E.insf 61 = none := rfl
theorem is62 : E.insf 62 = none := rfl
theorem is63 : E.insf 63 = none := rfl
theorem is64 : E.insf 64 = none := rfl
theorem is65 : E.insf 65 = none := rfl
theorem is66 : E.insf 66 = none := rfl
theorem is67 : E.insf 67 = none := rfl
theorem is68 : E.insf 68 = none := rfl
theorem is69 : E.insf 69 = none := rfl
theorem is70 : E.insf 70 = none := rfl
theorem is71 : E.insf 71 = none := rfl
theorem is72 : E.insf 72 = none := rfl
theorem is73 : E.insf 73 = none := rfl
theorem is74 : E.insf 74 = none := rfl
theorem is75 : E.insf 75 = none := rfl
theorem is76 : E.insf 76 = none := rfl
theorem is77 : E.insf 77 = none := rfl
theorem is78 : E.insf 78 = none := rfl
theorem is80 : E.insf 80 = none := rfl
theorem is81 : E.insf 81 = none := rfl
theorem is82 : E.insf 82 = none := rfl
theorem is83 : E.insf 83 = none := rfl
theorem is84 : E.insf 84 = none := rfl
theorem is85 : E.insf 85 = none := rfl
theorem is86 : E.insf 86 = none := rfl
theorem is87 : E.insf 87 = none := rfl
theorem is88 : E.insf 88 = none := rfl
theorem is89 : E.insf 89 = none := rfl
theorem is90 : E.insf 90 = none := rfl
theorem is91 : E.insf 91 = none := rfl
theorem is93 : E.insf 93 = none := rfl
theorem is94 : E.insf 94 = none := rfl
theorem is95 : E.insf 95 = none := rfl
theorem is96 : E.insf 96 = none := rfl
theorem is97 : E.insf 97 = none := rfl
theorem is98 : E.insf 98 = none := rfl
theorem is100 : E.insf 100 = none := rfl
theorem is122 : E.insf 122 = none := rfl
theorem cf2 : E.cutf 2 = false := rfl
theorem cf3 : E.cutf 3 = false := rfl
theorem cf4 : E.cutf 4 = false := rfl
theorem cf5 : E.cutf 5 = false := rfl
theorem cf6 : E.cutf 6 = false := rfl
theorem cf7 : E.cutf 7 = false := rfl
theorem cf8 : E.cutf 8 = false := rfl
theorem cf9 : E.cutf 9 = false := rfl
theorem cf10 : E.cutf 10 = false := rfl
theorem cf11 : E.cutf 11 = false := rfl
theorem cf12 : E.cutf 12 = false := rfl
theorem cf13 : E.cutf 13 = false := rfl
theorem cf14 : E.cutf 14 = false := rfl
theorem cf15 : E.cutf 15 = false := rfl
theorem cf16 : E.cutf 16 = false := rfl
theorem cf17 : E.cutf 17 = false := rfl
theorem cf18 : E.cutf 18 = false := rfl
theorem cf19 : E.cutf 19 = false := rfl
theorem cf20 : E.cutf 20 = false := rfl
theorem cf21 : E.cutf 21 = false := rfl
theorem cf22 : E.cutf 22 = false := rfl
theorem cf23 : E.cutf 23 = false := rfl
theorem cf24 : E.cutf 24 = false := rfl
theorem cf25 : E.cutf 25 = false := rfl
theorem cf26 : E.cutf 26 = false := rfl
theorem cf27 : E.cutf 27 = false := rfl
theorem cf28 : E.cutf 28 = false := rfl
theorem cf29 : E.cutf 29 = false := rfl
theorem cf30 : E.cutf 30 = false := rfl
theorem cf31 : E.cutf 31 = false := rfl
theorem cf32 : E.cutf 32 = false := rfl
theorem cf33 : E.cutf 33 = false := rfl
theorem cf34 : E.cutf 34 = false := rfl
theorem cf35 : E.cutf 35 = false := rfl
theorem cf36 : E.cutf 36 = false := rfl
theorem cf37 : E.cutf 37 = false := rfl
theorem cf38 : E.cutf 38 = false := rfl
theorem cf39 : E.cutf 39 = false := rfl
theorem cf40 : E.cutf 40 = false := rfl
theorem cf41 : E.cutf 41 = false := rfl
theorem cf42 : E.cutf 42 = false := rfl
theorem cf43 : E.cutf 43 = false := rfl
theorem cf44 : E.cutf 44 = false := rfl
theorem cf45 : E.cutf 45 = false := rfl
theorem cf46 : E.cutf 46 = false := rfl
theorem cf47 : E.cutf 47 = false := rfl
theorem cf48 : E.cutf 48 = false := rfl
theorem cf49 : E.cutf 49 = false := rfl
theorem cf50 : E.cutf 50 = false := rfl
theorem cf51 : E.cutf 51 = false := rfl
theorem cf52 : E.cutf 52 = false := rfl
theorem cf53 : E.cutf 53 = false := rfl
theorem cf55 : E.cutf 55 = false := rfl
theorem cf56 : E.cutf 56 = false := rfl
theorem cf57 : E.cutf 57 = false := rfl
theorem cf58 : E.cutf 58 = false := rfl
theorem cf59 : E.cutf 59 = false := rfl
theorem cf60 : E.cutf 60 = false := rfl
theorem cf61 : E.cutf 61 = false := rfl
theorem cf62 : E.cutf 62 = false := rfl
theorem cf63 : E.cutf 63 = false := rfl
theorem cf64 : E.cutf 64 = false := rfl
theorem cf65 : E.cutf 65 = false := rfl
theorem cf66 : E.cutf 66 = false := rfl
theorem cf67 : E.cutf 67 = false := rfl
theorem cf68 : E.cutf 68 = false := rfl
theorem cf69 : E.cutf 69 = false := rfl
theorem cf70 : E.cutf 70 = false := rfl
theorem cf71 : E.cutf 71 = false := rfl
theorem cf72 : E.cutf 72 = false := rfl
theorem cf73 : E.cutf 73 = false := rfl
theorem cf74 : E.cutf 74 = false := rfl
theorem cf75 : E.cutf 75 = false := rfl
theorem cf76 : E.cutf 76 = false := rfl
theorem cf77 : E.cutf 77 = false := rfl
theorem cf78 : E.cutf 78 = false := rfl
theorem cf80 : E.cutf 80 = false := rfl
theorem cf81 : E.cutf 81 = false := rfl
theorem cf82 : E.cutf 82 = false := rfl
theorem cf83 : E.cutf 83 = false := rfl
theorem cf84 : E.cutf 84 = false := rfl
theorem cf85 : E.cutf 85 = false := rfl
theorem cf86 : E.cutf 86 = false := rfl
theorem cf87 : E.cutf 87 = false := rfl
theorem cf88 : E.cutf 88 = false := rfl
theorem cf89 : E.cutf 89 = false := rfl
theorem cf90 : E.cutf 90 = false := rfl
theorem cf91 : E.cutf 91 = false := rfl
theorem cf93 : E.cutf 93 = false := rfl
theorem cf94 : E.cutf 94 = false := rfl
theorem cf95 : E.cutf 95 = false := rfl
theorem cf96 : E.cutf 96 = false := rfl
theorem cf97 : E.cutf 97 = false := rfl
theorem cf98 : E.cutf 98 = false := rfl
theorem cf100 : E.cutf 100 = false := rfl
theorem cf122 : E.cutf 122 = false := rfl
theorem wk2 : E.wk 2 = none := rfl
theorem wk3 : E.wk 3 = none := rfl
theorem wk4 : E.wk 4 = none := rfl
theorem wk5 : E.wk 5 = none := rfl
theorem wk6 : E.wk 6 = none := rfl
theorem wk7 : E.wk 7 = none := rfl
theorem wk8 : E.wk 8 = none := rfl
theorem wk9 : E.wk 9 = none := rfl
theorem wk10 : E.wk 10 = none := rfl
theorem wk11 : E.wk 11 = none := rfl
theorem wk12 : E.wk 12 = none := rfl
theorem wk13 : E.wk 13 = none := rfl
theorem wk14 : E.wk 14 = none := rfl
theorem wk15 : E.wk 15 = none := rfl
theorem wk16 : E.wk 16 = none := rfl
theorem wk17 : E.wk 17 = none := rfl
theorem wk18 : E.wk 18 = none := rfl
theorem wk19 : E.wk 19 = none := rfl
theorem wk20 : E.wk 20 = none := rfl
theorem wk21 : E.wk 21 = none := rfl
theorem wk22 : E.wk 22 = none := rfl
theorem wk23 : E.wk 23 = none := rfl
theorem wk24 : E.wk 24 = none := rfl
theorem wk25 : E.wk 25 = none := rfl
theorem wk26 : E.wk 26 = none := rfl
theorem wk27 : E.wk 27 = none := rfl
theorem wk28 : E.wk 28 = none := rfl
theorem wk29 : E.wk 29 = none := rfl
theorem wk30 : E.wk 30 = none := rfl
theorem wk31 : E.wk 31 = none := rfl
theorem wk32 : E.wk 32 = none := rfl
theorem wk33 : E.wk 33 = none := rfl
theorem wk34 : E.wk 34 = some 4 := rfl
theorem wk35 : E.wk 35 = none := rfl
theorem wk36 : E.wk 36 = none := rfl
theorem wk37 : E.wk 37 = none := rfl
theorem wk38 : E.wk 38 = none := rfl
theorem wk39 : E.wk 39 = none := rfl
theorem wk40 : E.wk 40 = none := rfl
theorem wk41 : E.wk 41 = none := rfl
theorem wk42 : E.wk 42 = none := rfl
theorem wk43 : E.wk 43 = none := rfl
theorem wk44 : E.wk 44 = none := rfl
theorem wk45 : E.wk 45 = none := rfl
theorem wk46 : E.wk 46 = none := rfl
theorem wk47 : E.wk 47 = none := rfl
theorem wk48 : E.wk 48 = none := rfl
theorem wk49 : E.wk 49 = none := rfl
theorem wk50 : E.wk 50 = none := rfl
theorem wk51 : E.wk 51 = none := rfl
theorem wk52 : E.wk 52 = none := rfl
theorem wk53 : E.wk 53 = none := rfl
theorem wk55 : E.wk 55 = none := rfl
theorem wk56 : E.wk 56 = none := rfl
theorem wk57 : E.wk 57 = none := rfl
theorem wk58 : E.wk 58 = none := rfl
theorem wk59 : E.wk 59 = none := rfl
theorem wk60 : E.wk 60 = none := rfl
theorem wk61 : E.wk 61 = none := rfl
theorem wk62 : E.wk 62 = none := rfl
theorem wk63 : E.wk 63 = none := rfl
theorem wk64 : E.wk 64 = none := rfl
theorem wk65 : E.wk 65 = none := rfl
theorem wk66 : E.wk 66 = none := rfl
theorem wk67 : E.wk 67 = none := rfl
theorem wk68 : E.wk 68 = none := rfl
theorem wk69 : E.wk 69 = none := rfl
theorem wk70 : E.wk 70 = none := rfl
theorem wk71 : E.wk 71 = none := rfl
theorem wk72 : E.wk 72 = none := rfl
theorem wk73 : E.wk 73 = none := rfl
theorem wk74 : E.wk 74 = none := rfl
theorem wk75 : E.wk 75 = none := rfl
theorem wk76 : E.wk 76 = none := rfl
theorem wk77 : E.wk 77 = none := rfl
theorem wk78 : E.wk 78 = none := rfl
theorem wk80 : E.wk 80 = none := rfl
theorem wk81 : E.wk 81 = none := rfl
theorem wk82 : E.wk 82 = none := rfl
theorem wk83 : E.wk 83 = none := rfl
theorem wk84 : E.wk 84 = none := rfl
theorem wk85 : E.wk 85 = none := rfl
theorem wk86 : E.wk 86 = none := rfl
theorem wk87 : E.wk 87 = none := rfl
theorem wk88 : E.wk 88 = none := rfl
theorem wk89 : E.wk 89 = none := rfl
theorem wk90 : E.wk 90 = none := rfl
theorem wk91 : E.wk 91 = none := rfl
theorem wk93 : E.wk 93 = none := rfl
theorem wk94 : E.wk 94 = none := rfl
theorem wk95 : E.wk 95 = some 1 := rfl
theorem wk96 : E.wk 96 = none := rfl
theorem wk97 : E.wk 97 = none := rfl
theorem wk98 : E.wk 98 = none := rfl
theorem wk100 : E.wk 100 = none := rfl
theorem wk122 : E.wk 122 = none := rfl

theorem rowsOK : rows.all (fun p => rowB Tryd.prog p.1 p.2) = true := by kernel_rfl
theorem EOK : E.OK Tryd.prog := fun t r h => rows_ok (E := E) rowsOK t r h

theorem fb2 : funcB Tryd.f2 = true := by kernel_rfl
theorem fb3 : funcB Tryd.f3 = true := by kernel_rfl
theorem fb4 : funcB Tryd.f4 = true := by kernel_rfl
theorem fb5 : funcB Tryd.f5 = true := by kernel_rfl
theorem fb6 : funcB Tryd.f6 = true := by kernel_rfl
theorem fb7 : funcB Tryd.f7 = true := by kernel_rfl
theorem fb8 : funcB Tryd.f8 = true := by kernel_rfl
theorem fb9 : funcB Tryd.f9 = true := by kernel_rfl
theorem fb10 : funcB Tryd.f10 = true := by kernel_rfl
theorem fb11 : funcB Tryd.f11 = true := by kernel_rfl
theorem fb12 : funcB Tryd.f12 = true := by kernel_rfl
theorem fb13 : funcB Tryd.f13 = true := by kernel_rfl
theorem fb14 : funcB Tryd.f14 = true := by kernel_rfl
theorem fb15 : funcB Tryd.f15 = true := by kernel_rfl
theorem fb16 : funcB Tryd.f16 = true := by kernel_rfl
theorem fb17 : funcB Tryd.f17 = true := by kernel_rfl
theorem fb18 : funcB Tryd.f18 = true := by kernel_rfl
theorem fb19 : funcB Tryd.f19 = true := by kernel_rfl
theorem fb20 : funcB Tryd.f20 = true := by kernel_rfl
theorem fb21 : funcB Tryd.f21 = true := by kernel_rfl
theorem fb22 : funcB Tryd.f22 = true := by kernel_rfl
theorem fb23 : funcB Tryd.f23 = true := by kernel_rfl
theorem fb24 : funcB Tryd.f24 = true := by kernel_rfl
theorem fb25 : funcB Tryd.f25 = true := by kernel_rfl
theorem fb26 : funcB Tryd.f26 = true := by kernel_rfl
theorem fb27 : funcB Tryd.f27 = true := by kernel_rfl
theorem fb28 : funcB Tryd.f28 = true := by kernel_rfl
theorem fb29 : funcB Tryd.f29 = true := by kernel_rfl
theorem fb30 : funcB Tryd.f30 = true := by kernel_rfl
theorem fb31 : funcB Tryd.f31 = true := by kernel_rfl
theorem fb32 : funcB Tryd.f32 = true := by kernel_rfl
theorem fb33 : funcB Tryd.f33 = true := by kernel_rfl
theorem fb34 : funcB Tryd.f34 = true := by kernel_rfl
theorem fb35 : funcB Tryd.f35 = true := by kernel_rfl
theorem fb36 : funcB Tryd.f36 = true := by kernel_rfl
theorem fb37 : funcB Tryd.f37 = true := by kernel_rfl
theorem fb38 : funcB Tryd.f38 = true := by kernel_rfl
theorem fb39 : funcB Tryd.f39 = true := by kernel_rfl
theorem fb40 : funcB Tryd.f40 = true := by kernel_rfl
theorem fb41 : funcB Tryd.f41 = true := by kernel_rfl
theorem fb42 : funcB Tryd.f42 = true := by kernel_rfl
theorem fb43 : funcB Tryd.f43 = true := by kernel_rfl
theorem fb44 : funcB Tryd.f44 = true := by kernel_rfl
theorem fb45 : funcB Tryd.f45 = true := by kernel_rfl
theorem fb46 : funcB Tryd.f46 = true := by kernel_rfl
theorem fb47 : funcB Tryd.f47 = true := by kernel_rfl
theorem fb48 : funcB Tryd.f48 = true := by kernel_rfl
theorem fb49 : funcB Tryd.f49 = true := by kernel_rfl
theorem fb50 : funcB Tryd.f50 = true := by kernel_rfl
theorem fb51 : funcB Tryd.f51 = true := by kernel_rfl
theorem fb52 : funcB Tryd.f52 = true := by kernel_rfl
theorem fb53 : funcB Tryd.f53 = true := by kernel_rfl
theorem fb55 : funcB Tryd.f55 = true := by kernel_rfl
theorem fb56 : funcB Tryd.f56 = true := by kernel_rfl
theorem fb57 : funcB Tryd.f57 = true := by kernel_rfl
theorem fb58 : funcB Tryd.f58 = true := by kernel_rfl
theorem fb59 : funcB Tryd.f59 = true := by kernel_rfl
theorem fb60 : funcB Tryd.f60 = true := by kernel_rfl
theorem fb61 : funcB Tryd.f61 = true := by kernel_rfl
theorem fb62 : funcB Tryd.f62 = true := by kernel_rfl
theorem fb63 : funcB Tryd.f63 = true := by kernel_rfl
theorem fb64 : funcB Tryd.f64 = true := by kernel_rfl
theorem fb65 : funcB Tryd.f65 = true := by kernel_rfl
theorem fb66 : funcB Tryd.f66 = true := by kernel_rfl
theorem fb67 : funcB Tryd.f67 = true := by kernel_rfl
theorem fb68 : funcB Tryd.f68 = true := by kernel_rfl
theorem fb69 : funcB Tryd.f69 = true := by kernel_rfl
theorem fb70 : funcB Tryd.f70 = true := by kernel_rfl
theorem fb71 : funcB Tryd.f71 = true := by kernel_rfl
theorem fb72 : funcB Tryd.f72 = true := by kernel_rfl
theorem fb73 : funcB Tryd.f73 = true := by kernel_rfl
theorem fb74 : funcB Tryd.f74 = true := by kernel_rfl
theorem fb75 : funcB Tryd.f75 = true := by kernel_rfl
theorem fb76 : funcB Tryd.f76 = true := by kernel_rfl
theorem fb77 : funcB Tryd.f77 = true := by kernel_rfl
theorem fb78 : funcB Tryd.f78 = true := by kernel_rfl
theorem fb80 : funcB Tryd.f80 = true := by kernel_rfl
theorem fb81 : funcB Tryd.f81 = true := by kernel_rfl
theorem fb82 : funcB Tryd.f82 = true := by kernel_rfl
theorem fb83 : funcB Tryd.f83 = true := by kernel_rfl
theorem fb84 : funcB Tryd.f84 = true := by kernel_rfl
theorem fb85 : funcB Tryd.f85 = true := by kernel_rfl
theorem fb86 : funcB Tryd.f86 = true := by kernel_rfl
theorem fb87 : funcB Tryd.f87 = true := by kernel_rfl
theorem fb88 : funcB Tryd.f88 = true := by kernel_rfl
theorem fb89 : funcB Tryd.f89 = true := by kernel_rfl
theorem fb90 : funcB Tryd.f90 = true := by kernel_rfl
theorem fb91 : funcB Tryd.f91 = true := by kernel_rfl
theorem fb93 : funcB Tryd.f93 = true := by kernel_rfl
theorem fb94 : funcB Tryd.f94 = true := by kernel_rfl
theorem fb95 : funcB Tryd.f95 = true := by kernel_rfl
theorem fb96 : funcB Tryd.f96 = true := by kernel_rfl
theorem fb97 : funcB Tryd.f97 = true := by kernel_rfl
theorem fb98 : funcB Tryd.f98 = true := by kernel_rfl
theorem fb100 : funcB Tryd.f100 = true := by kernel_rfl
theorem fb122 : funcB Tryd.f122 = true := by kernel_rfl
theorem EB : E.Bodies Tryd.prog := ⟨fun f c rs h => bodies_ok (l := funs) (by
  intro p hp
  simp only [funs, List.mem_cons, List.not_mem_nil, or_false] at hp
  rcases hp with rfl | rfl | rfl | rfl | rfl | rfl | rfl | rfl | rfl | rfl | rfl | rfl | rfl | rfl | rfl | rfl | rfl | rfl | rfl | rfl | rfl | rfl | rfl | rfl | rfl | rfl | rfl | rfl | rfl | rfl | rfl | rfl | rfl | rfl | rfl | rfl | rfl | rfl | rfl | rfl | rfl | rfl | rfl | rfl | rfl | rfl | rfl | rfl | rfl | rfl | rfl | rfl | rfl | rfl | rfl | rfl | rfl | rfl | rfl | rfl | rfl | rfl | rfl | rfl | rfl | rfl | rfl | rfl | rfl | rfl | rfl | rfl | rfl | rfl | rfl | rfl | rfl | rfl | rfl | rfl | rfl | rfl | rfl | rfl | rfl | rfl | rfl | rfl | rfl | rfl | rfl | rfl | rfl | rfl | rfl | rfl
  · exact ⟨Tryd.func2, fb2⟩
  · exact ⟨Tryd.func3, fb3⟩
  · exact ⟨Tryd.func4, fb4⟩
  · exact ⟨Tryd.func5, fb5⟩
  · exact ⟨Tryd.func6, fb6⟩
  · exact ⟨Tryd.func7, fb7⟩
  · exact ⟨Tryd.func8, fb8⟩
  · exact ⟨Tryd.func9, fb9⟩
  · exact ⟨Tryd.func10, fb10⟩
  · exact ⟨Tryd.func11, fb11⟩
  · exact ⟨Tryd.func12, fb12⟩
  · exact ⟨Tryd.func13, fb13⟩
  · exact ⟨Tryd.func14, fb14⟩
  · exact ⟨Tryd.func15, fb15⟩
  · exact ⟨Tryd.func16, fb16⟩
  · exact ⟨Tryd.func17, fb17⟩
  · exact ⟨Tryd.func18, fb18⟩
  · exact ⟨Tryd.func19, fb19⟩
  · exact ⟨Tryd.func20, fb20⟩
  · exact ⟨Tryd.func21, fb21⟩
  · exact ⟨Tryd.func22, fb22⟩
  · exact ⟨Tryd.func23, fb23⟩
  · exact ⟨Tryd.func24, fb24⟩
  · exact ⟨Tryd.func25, fb25⟩
  · exact ⟨Tryd.func26, fb26⟩
  · exact ⟨Tryd.func27, fb27⟩
  · exact ⟨Tryd.func28, fb28⟩
  · exact ⟨Tryd.func29, fb29⟩
  · exact ⟨Tryd.func30, fb30⟩
  · exact ⟨Tryd.func31, fb31⟩
  · exact ⟨Tryd.func32, fb32⟩
  · exact ⟨Tryd.func33, fb33⟩
  · exact ⟨Tryd.func34, fb34⟩
  · exact ⟨Tryd.func35, fb35⟩
  · exact ⟨Tryd.func36, fb36⟩
  · exact ⟨Tryd.func37, fb37⟩
  · exact ⟨Tryd.func38, fb38⟩
  · exact ⟨Tryd.func39, fb39⟩
  · exact ⟨Tryd.func40, fb40⟩
  · exact ⟨Tryd.func41, fb41⟩
  · exact ⟨Tryd.func42, fb42⟩
  · exact ⟨Tryd.func43, fb43⟩
  · exact ⟨Tryd.func44, fb44⟩
  · exact ⟨Tryd.func45, fb45⟩
  · exact ⟨Tryd.func46, fb46⟩
  · exact ⟨Tryd.func47, fb47⟩
  · exact ⟨Tryd.func48, fb48⟩
  · exact ⟨Tryd.func49, fb49⟩
  · exact ⟨Tryd.func50, fb50⟩
  · exact ⟨Tryd.func51, fb51⟩
  · exact ⟨Tryd.func52, fb52⟩
  · exact ⟨Tryd.func53, fb53⟩
  · exact ⟨Tryd.func55, fb55⟩
  · exact ⟨Tryd.func56, fb56⟩
  · exact ⟨Tryd.func57, fb57⟩
  · exact ⟨Tryd.func58, fb58⟩
  · exact ⟨Tryd.func59, fb59⟩
  · exact ⟨Tryd.func60, fb60⟩
  · exact ⟨Tryd.func61, fb61⟩
  · exact ⟨Tryd.func62, fb62⟩
  · exact ⟨Tryd.func63, fb63⟩
  · exact ⟨Tryd.func64, fb64⟩
  · exact ⟨Tryd.func65, fb65⟩
  · exact ⟨Tryd.func66, fb66⟩
  · exact ⟨Tryd.func67, fb67⟩
  · exact ⟨Tryd.func68, fb68⟩
  · exact ⟨Tryd.func69, fb69⟩
  · exact ⟨Tryd.func70, fb70⟩
  · exact ⟨Tryd.func71, fb71⟩
  · exact ⟨Tryd.func72, fb72⟩
  · exact ⟨Tryd.func73, fb73⟩
  · exact ⟨Tryd.func74, fb74⟩
  · exact ⟨Tryd.func75, fb75⟩
  · exact ⟨Tryd.func76, fb76⟩
  · exact ⟨Tryd.func77, fb77⟩
  · exact ⟨Tryd.func78, fb78⟩
  · exact ⟨Tryd.func80, fb80⟩
  · exact ⟨Tryd.func81, fb81⟩
  · exact ⟨Tryd.func82, fb82⟩
  · exact ⟨Tryd.func83, fb83⟩
  · exact ⟨Tryd.func84, fb84⟩
  · exact ⟨Tryd.func85, fb85⟩
  · exact ⟨Tryd.func86, fb86⟩
  · exact ⟨Tryd.func87, fb87⟩
  · exact ⟨Tryd.func88, fb88⟩
  · exact ⟨Tryd.func89, fb89⟩
  · exact ⟨Tryd.func90, fb90⟩
  · exact ⟨Tryd.func91, fb91⟩
  · exact ⟨Tryd.func93, fb93⟩
  · exact ⟨Tryd.func94, fb94⟩
  · exact ⟨Tryd.func95, fb95⟩
  · exact ⟨Tryd.func96, fb96⟩
  · exact ⟨Tryd.func97, fb97⟩
  · exact ⟨Tryd.func98, fb98⟩
  · exact ⟨Tryd.func100, fb100⟩
  · exact ⟨Tryd.func122, fb122⟩) f c rs h⟩
theorem EP : Tryd.prog.follows .mixedOrders = true := by kernel_rfl
theorem EH : OrcOK Tryd.prog E.hand := (hand2_ok (handC_ok Tryd.func79 (by kernel_rfl) (by kernel_rfl) (by kernel_rfl) (by kernel_rfl)) (handO_ok (z := 4) (tS := 38) (tR := 4) (e := 42) Tryd.func54 (by kernel_rfl) (by kernel_rfl) (by kernel_rfl) (by kernel_rfl) (by kernel_rfl) (EOK _ _ r42)))
theorem ecmp (d : Nat) (a b : ByteArray) : evFun E (d+1) 79 [.val (.string a), .val (.string b)] [] = some (.val (.int .i64 (Lib.compareBytes a.data.toList b.data.toList)), []) := by
  have h : E.body 79 = none := rfl
  simp only [evFun, h]
  have e : E.hand = (hand2 (handC 79) (handO 54 4)) := rfl
  rw [e]
  simp only [hand2, handC_eq]
theorem eovl54 (d : Nat) (c1 cap : Option Nat) (es ds : List AV) (off n : Nat) (hs : qf ds = true) : evFun E (d+1) 54 [.sl .snap 4 1 c1 es, .ref 0 [] 4 off n cap] [ds] = some (.val (.bool false), [some ds]) := by
  have h : E.body 54 = none := rfl
  simp only [evFun, h]
  have e : E.hand = (hand2 (handC 79) (handO 54 4)) := rfl
  rw [e]
  have hz : decide (2 ≤ 4) = true := rfl
  simp only [hand2, show ∀ args cts, handC 79 54 args cts = none from fun _ _ => rfl, handO_eq _ _ _ _ _ _ _ _ hz hs]
def rr0 := And.intro @r1 (And.intro @r2 (And.intro @r3 (And.intro @r4 (And.intro @r5 (And.intro @r6 (And.intro @r7 (And.intro @r8 (And.intro @r9 (And.intro @r10 (And.intro @r11 (And.intro @r12 (And.intro @r13 (And.intro @r14 (And.intro @r15 (And.intro @r16 (And.intro @r17 (And.intro @r18 (And.intro @r19 (And.intro @r21 (And.intro @r22 (And.intro @r23 (And.intro @r24 (And.intro @r25 (And.intro @r26 (And.intro @r27 (And.intro @r28 (And.intro @r29 (And.intro @r30 (And.intro @r31 (And.intro @r32 (And.intro @r33 (And.intro @r34 (And.intro @r35 (And.intro @r36 (And.intro @r37 (And.intro @r38 (And.intro @r40 (And.intro @r41 (And.intro @r42 (And.intro @r43 (And.intro @r44 (And.intro @r45 (And.intro @r46 (And.intro @r47 (And.intro @r48 (And.intro @r49 (And.intro @r50 (And.intro @r51 (And.intro @r52 (And.intro @r53 (And.intro @r54 (And.intro @r55 (And.intro @r56 (And.intro @r57 (And.intro @r58 (And.intro @r59 (And.intro @r60 (And.intro @r61 (And.intro @r62 (And.intro @r64 (And.intro @r65 (And.intro @r66 (And.intro @r67 (And.intro @r68 (And.intro @r69 (And.intro @r70 (And.intro @r71 (And.intro @r72 (And.intro @r73 (And.intro @r74 (And.intro @r75 (And.intro @r76 (And.intro @r77 (And.intro @r78 (And.intro @r79 (And.intro @r80 (And.intro @r81 (And.intro @r82 (And.intro @r83 (And.intro @r84 (And.intro @r85 (And.intro @r86 (And.intro @r87 (And.intro @r88 (And.intro @r89 (And.intro @r90 (And.intro @r91 (And.intro @r92 (And.intro @r94 (And.intro @r95 (And.intro @r96 (And.intro @r97 (And.intro @r98 (And.intro @r99 (And.intro @r100 (And.intro @r101 (And.intro @r103 (And.intro @r104 (And.intro @r105 (And.intro @r106 (And.intro @r107 (And.intro @r108 (And.intro @r109 (And.intro @r111 (And.intro @r112 (And.intro @r113 (And.intro @r114 (And.intro @r115 (And.intro @r116 (And.intro @r117 (And.intro @r118 (And.intro @r119 (And.intro @r120 (And.intro @r121 (And.intro @r122 (And.intro @r123 (And.intro @r124 (And.intro @r125 (And.intro @r129 (And.intro @r130 (And.intro @r131 (And.intro @r132 (And.intro @r133 (And.intro @r134 (And.intro @r135 (And.intro @r136 (And.intro @r137 (And.intro @r138 (And.intro @lv5_5 (And.intro @lv6_3 (And.intro @lv7_3 (And.intro @lv8_5 (And.intro @lv9_4 (And.intro @lv10_4 (And.intro @lv11_2 (And.intro @lv12_2 (And.intro @lv13_2 (And.intro @lv14_5 (And.intro @lv16_11 (And.intro @lv17_3 (And.intro @lv20_4 (And.intro @lv21_2 (And.intro @lv22_2 (And.intro @lv24_2 (And.intro @lv26_2 (And.intro @lv28_4 (And.intro @lv29_2 (And.intro @lv31_2 (@lv33_2)))))))))))))))))))))))))))))))))))))))))))))))))))))))))))))))))))))))))))))))))))))))))))))))))))))))))))))))))))))))))))))))))))))))))))))))))))))
def rr1 := And.intro @lv35_2 (And.intro @lv40_5 (And.intro @lv41_2 (And.intro @lv42_2 (And.intro @lv43_3 (And.intro @lv45_4 (And.intro @lv46_2 (And.intro @lv51_3 (And.intro @lv66_20 (And.intro @lv67_3 (And.intro @lv71_4 (And.intro @lv72_1 (And.intro @lv73_1 (And.intro @lv74_2 (And.intro @lv75_1 (And.intro @lv76_1 (And.intro @lv77_1 (And.intro @lv78_1 (And.intro @lv80_1 (And.intro @lv81_3 (And.intro @lv83_2 (And.intro @lv89_10 (And.intro @lv90_4 (And.intro @lv94_3 (And.intro @ld2 (And.intro @ld3 (And.intro @ld4 (And.intro @ld5 (And.intro @ld6 (And.intro @ld7 (And.intro @ld8 (And.intro @ld9 (And.intro @ld10 (And.intro @ld11 (And.intro @ld12 (And.intro @ld13 (And.intro @ld14 (And.intro @ld15 (And.intro @ld16 (And.intro @ld17 (And.intro @ld18 (And.intro @ld19 (And.intro @ld20 (And.intro @ld21 (And.intro @ld22 (And.intro @ld23 (And.intro @ld24 (And.intro @ld25 (And.intro @ld26 (And.intro @ld27 (And.intro @ld28 (And.intro @ld29 (And.intro @ld30 (And.intro @ld31 (And.intro @ld32 (And.intro @ld33 (And.intro @ld34 (And.intro @ld35 (And.intro @ld36 (And.intro @ld37 (And.intro @ld38 (And.intro @ld39 (And.intro @ld40 (And.intro @ld41 (And.intro @ld42 (And.intro @ld43 (And.intro @ld44 (And.intro @ld45 (And.intro @ld46 (And.intro @ld47 (And.intro @ld48 (And.intro @ld49 (And.intro @ld50 (And.intro @ld51 (And.intro @ld52 (And.intro @ld53 (And.intro @ld55 (And.intro @ld56 (And.intro @ld57 (And.intro @ld58 (And.intro @ld59 (And.intro @ld60 (And.intro @ld61 (And.intro @ld62 (And.intro @ld63 (And.intro @ld64 (And.intro @ld65 (And.intro @ld66 (And.intro @ld67 (And.intro @ld68 (And.intro @ld69 (And.intro @ld70 (And.intro @ld71 (And.intro @ld72 (And.intro @ld73 (And.intro @ld74 (And.intro @ld75 (And.intro @ld76 (And.intro @ld77 (And.intro @ld78 (And.intro @ld80 (And.intro @ld81 (And.intro @ld82 (And.intro @ld83 (And.intro @ld84 (And.intro @ld85 (And.intro @ld86 (And.intro @ld87 (And.intro @ld88 (And.intro @ld89 (And.intro @ld90 (And.intro @ld91 (And.intro @ld93 (And.intro @ld94 (And.intro @ld95 (And.intro @ld96 (And.intro @ld97 (And.intro @ld98 (And.intro @ld100 (And.intro @ld122 (And.intro @wk2 (And.intro @wk3 (And.intro @wk4 (And.intro @wk5 (And.intro @wk6 (And.intro @wk7 (And.intro @wk8 (And.intro @wk9 (And.intro @wk10 (And.intro @wk11 (And.intro @wk12 (And.intro @wk13 (And.intro @wk14 (And.intro @wk15 (And.intro @wk16 (And.intro @wk17 (And.intro @wk18 (And.intro @wk19 (And.intro @wk20 (And.intro @wk21 (And.intro @wk22 (And.intro @wk23 (And.intro @wk24 (And.intro @wk25 (And.intro @wk26 (And.intro @wk27 (And.intro @wk28 (And.intro @wk29 (And.intro @wk30 (@wk31)))))))))))))))))))))))))))))))))))))))))))))))))))))))))))))))))))))))))))))))))))))))))))))))))))))))))))))))))))))))))))))))))))))))))))))))))))))
def rr2 := And.intro @wk32 (And.intro @wk33 (And.intro @wk34 (And.intro @wk35 (And.intro @wk36 (And.intro @wk37 (And.intro @wk38 (And.intro @wk39 (And.intro @wk40 (And.intro @wk41 (And.intro @wk42 (And.intro @wk43 (And.intro @wk44 (And.intro @wk45 (And.intro @wk46 (And.intro @wk47 (And.intro @wk48 (And.intro @wk49 (And.intro @wk50 (And.intro @wk51 (And.intro @wk52 (And.intro @wk53 (And.intro @wk55 (And.intro @wk56 (And.intro @wk57 (And.intro @wk58 (And.intro @wk59 (And.intro @wk60 (And.intro @wk61 (And.intro @wk62 (And.intro @wk63 (And.intro @wk64 (And.intro @wk65 (And.intro @wk66 (And.intro @wk67 (And.intro @wk68 (And.intro @wk69 (And.intro @wk70 (And.intro @wk71 (And.intro @wk72 (And.intro @wk73 (And.intro @wk74 (And.intro @wk75 (And.intro @wk76 (And.intro @wk77 (And.intro @wk78 (And.intro @wk80 (And.intro @wk81 (And.intro @wk82 (And.intro @wk83 (And.intro @wk84 (And.intro @wk85 (And.intro @wk86 (And.intro @wk87 (And.intro @wk88 (And.intro @wk89 (And.intro @wk90 (And.intro @wk91 (And.intro @wk93 (And.intro @wk94 (And.intro @wk95 (And.intro @wk96 (And.intro @wk97 (And.intro @wk98 (And.intro @wk100 (And.intro @wk122 (And.intro @bf2 (And.intro @bf3 (And.intro @bf4 (And.intro @bf5 (And.intro @bf6 (And.intro @bf7 (And.intro @bf8 (And.intro @bf9 (And.intro @bf10 (And.intro @bf11 (And.intro @bf12 (And.intro @bf13 (And.intro @bf14 (And.intro @bf15 (And.intro @bf16 (And.intro @bf17 (And.intro @bf18 (And.intro @bf19 (And.intro @bf20 (And.intro @bf21 (And.intro @bf22 (And.intro @bf23 (And.intro @bf24 (And.intro @bf25 (And.intro @bf26 (And.intro @bf27 (And.intro @bf28 (And.intro @bf29 (And.intro @bf30 (And.intro @bf31 (And.intro @bf32 (And.intro @bf33 (And.intro @bf34 (And.intro @bf35 (And.intro @bf36 (And.intro @bf37 (And.intro @bf38 (And.intro @bf39 (And.intro @bf40 (And.intro @bf41 (And.intro @bf42 (And.intro @bf43 (And.intro @bf44 (And.intro @bf45 (And.intro @bf46 (And.intro @bf47 (And.intro @bf48 (And.intro @bf49 (And.intro @bf50 (And.intro @bf51 (And.intro @bf52 (And.intro @bf53 (And.intro @bf55 (And.intro @bf56 (And.intro @bf57 (And.intro @bf58 (And.intro @bf59 (And.intro @bf60 (And.intro @bf61 (And.intro @bf62 (And.intro @bf63 (And.intro @bf64 (And.intro @bf65 (And.intro @bf66 (And.intro @bf67 (And.intro @bf68 (And.intro @bf69 (And.intro @bf70 (And.intro @bf71 (And.intro @bf72 (And.intro @bf73 (And.intro @bf74 (And.intro @bf75 (And.intro @bf76 (And.intro @bf77 (And.intro @bf78 (And.intro @bf80 (And.intro @bf81 (And.intro @bf82 (And.intro @bf83 (And.intro @bf84 (And.intro @bf85 (And.intro @bf86 (@bf87)))))))))))))))))))))))))))))))))))))))))))))))))))))))))))))))))))))))))))))))))))))))))))))))))))))))))))))))))))))))))))))))))))))))))))))))))))))
def rr3 := And.intro @bf88 (And.intro @bf89 (And.intro @bf90 (And.intro @bf91 (And.intro @bf93 (And.intro @bf94 (And.intro @bf95 (And.intro @bf96 (And.intro @bf97 (And.intro @bf98 (And.intro @bf100 (And.intro @bf122 (And.intro @nf2 (And.intro @nf3 (And.intro @nf4 (And.intro @nf5 (And.intro @nf6 (And.intro @nf7 (And.intro @nf8 (And.intro @nf9 (And.intro @nf10 (And.intro @nf11 (And.intro @nf12 (And.intro @nf13 (And.intro @nf14 (And.intro @nf15 (And.intro @nf16 (And.intro @nf17 (And.intro @nf18 (And.intro @nf19 (And.intro @nf20 (And.intro @nf21 (And.intro @nf22 (And.intro @nf23 (And.intro @nf24 (And.intro @nf25 (And.intro @nf26 (And.intro @nf27 (And.intro @nf28 (And.intro @nf29 (And.intro @nf30 (And.intro @nf31 (And.intro @nf32 (And.intro @nf33 (And.intro @nf34 (And.intro @nf35 (And.intro @nf36 (And.intro @nf37 (And.intro @nf38 (And.intro @nf39 (And.intro @nf40 (And.intro @nf41 (And.intro @nf42 (And.intro @nf43 (And.intro @nf44 (And.intro @nf45 (And.intro @nf46 (And.intro @nf47 (And.intro @nf48 (And.intro @nf49 (And.intro @nf50 (And.intro @nf51 (And.intro @nf52 (And.intro @nf53 (And.intro @nf55 (And.intro @nf56 (And.intro @nf57 (And.intro @nf58 (And.intro @nf59 (And.intro @nf60 (And.intro @nf61 (And.intro @nf62 (And.intro @nf63 (And.intro @nf64 (And.intro @nf65 (And.intro @nf66 (And.intro @nf67 (And.intro @nf68 (And.intro @nf69 (And.intro @nf70 (And.intro @nf71 (And.intro @nf72 (And.intro @nf73 (And.intro @nf74 (And.intro @nf75 (And.intro @nf76 (And.intro @nf77 (And.intro @nf78 (And.intro @nf80 (And.intro @nf81 (And.intro @nf82 (And.intro @nf83 (And.intro @nf84 (And.intro @nf85 (And.intro @nf86 (And.intro @nf87 (And.intro @nf88 (And.intro @nf89 (And.intro @nf90 (And.intro @nf91 (And.intro @nf93 (And.intro @nf94 (And.intro @nf95 (And.intro @nf96 (And.intro @nf97 (And.intro @nf98 (And.intro @nf100 (And.intro @nf122 (And.intro @dp2 (And.intro @dp3 (And.intro @dp4 (And.intro @dp5 (And.intro @dp6 (And.intro @dp7 (And.intro @dp8 (And.intro @dp9 (And.intro @dp10 (And.intro @dp11 (And.intro @dp12 (And.intro @dp13 (And.intro @dp14 (And.intro @dp15 (And.intro @dp16 (And.intro @dp17 (And.intro @dp18 (And.intro @dp19 (And.intro @dp20 (And.intro @dp21 (And.intro @dp22 (And.intro @dp23 (And.intro @dp24 (And.intro @dp25 (And.intro @dp26 (And.intro @dp27 (And.intro @dp28 (And.intro @dp29 (And.intro @dp30 (And.intro @dp31 (And.intro @dp32 (And.intro @dp33 (And.intro @dp34 (And.intro @dp35 (And.intro @dp36 (And.intro @dp37 (And.intro @dp38 (And.intro @dp39 (And.intro @dp40 (And.intro @dp41 (And.intro @dp42 (@dp43)))))))))))))))))))))))))))))))))))))))))))))))))))))))))))))))))))))))))))))))))))))))))))))))))))))))))))))))))))))))))))))))))))))))))))))))))))))
def rr4 := And.intro @dp44 (And.intro @dp45 (And.intro @dp46 (And.intro @dp47 (And.intro @dp48 (And.intro @dp49 (And.intro @dp50 (And.intro @dp51 (And.intro @dp52 (And.intro @dp53 (And.intro @dp55 (And.intro @dp56 (And.intro @dp57 (And.intro @dp58 (And.intro @dp59 (And.intro @dp60 (And.intro @dp61 (And.intro @dp62 (And.intro @dp63 (And.intro @dp64 (And.intro @dp65 (And.intro @dp66 (And.intro @dp67 (And.intro @dp68 (And.intro @dp69 (And.intro @dp70 (And.intro @dp71 (And.intro @dp72 (And.intro @dp73 (And.intro @dp74 (And.intro @dp75 (And.intro @dp76 (And.intro @dp77 (And.intro @dp78 (And.intro @dp80 (And.intro @dp81 (And.intro @dp82 (And.intro @dp83 (And.intro @dp84 (And.intro @dp85 (And.intro @dp86 (And.intro @dp87 (And.intro @dp88 (And.intro @dp89 (And.intro @dp90 (And.intro @dp91 (And.intro @dp93 (And.intro @dp94 (And.intro @dp95 (And.intro @dp96 (And.intro @dp97 (And.intro @dp98 (And.intro @dp100 (And.intro @dp122 (And.intro @is2 (And.intro @is3 (And.intro @is4 (And.intro @is5 (And.intro @is6 (And.intro @is7 (And.intro @is8 (And.intro @is9 (And.intro @is10 (And.intro @is11 (And.intro @is12 (And.intro @is13 (And.intro @is14 (And.intro @is15 (And.intro @is16 (And.intro @is17 (And.intro @is18 (And.intro @is19 (And.intro @is20 (And.intro @is21 (And.intro @is22 (And.intro @is23 (And.intro @is24 (And.intro @is25 (And.intro @is26 (And.intro @is27 (And.intro @is28 (And.intro @is29 (And.intro @is30 (And.intro @is31 (And.intro @is32 (And.intro @is33 (And.intro @is34 (And.intro @is35 (And.intro @is36 (And.intro @is37 (And.intro @is38 (And.intro @is39 (And.intro @is40 (And.intro @is41 (And.intro @is42 (And.intro @is43 (And.intro @is44 (And.intro @is45 (And.intro @is46 (And.intro @is47 (And.intro @is48 (And.intro @is49 (And.intro @is50 (And.intro @is51 (And.intro @is52 (And.intro @is53 (And.intro @is55 (And.intro @is56 (And.intro @is57 (And.intro @is58 (And.intro @is59 (And.intro @is60 (And.intro @is61 (And.intro @is62 (And.intro @is63 (And.intro @is64 (And.intro @is65 (And.intro @is66 (And.intro @is67 (And.intro @is68 (And.intro @is69 (And.intro @is70 (And.intro @is71 (And.intro @is72 (And.intro @is73 (And.intro @is74 (And.intro @is75 (And.intro @is76 (And.intro @is77 (And.intro @is78 (And.intro @is80 (And.intro @is81 (And.intro @is82 (And.intro @is83 (And.intro @is84 (And.intro @is85 (And.intro @is86 (And.intro @is87 (And.intro @is88 (And.intro @is89 (And.intro @is90 (And.intro @is91 (And.intro @is93 (And.intro @is94 (And.intro @is95 (And.intro @is96 (And.intro @is97 (And.intro @is98 (And.intro @is100 (@is122)))))))))))))))))))))))))))))))))))))))))))))))))))))))))))))))))))))))))))))))))))))))))))))))))))))))))))))))))))))))))))))))))))))))))))))))))))))
def rr5 := And.intro @is54 (And.intro @is79 (And.intro @ld54 (And.intro @ld79 (And.intro @dp54 (And.intro @dp79 (And.intro @cf2 (And.intro @cf3 (And.intro @cf4 (And.intro @cf5 (And.intro @cf6 (And.intro @cf7 (And.intro @cf8 (And.intro @cf9 (And.intro @cf10 (And.intro @cf11 (And.intro @cf12 (And.intro @cf13 (And.intro @cf14 (And.intro @cf15 (And.intro @cf16 (And.intro @cf17 (And.intro @cf18 (And.intro @cf19 (And.intro @cf20 (And.intro @cf21 (And.intro @cf22 (And.intro @cf23 (And.intro @cf24 (And.intro @cf25 (And.intro @cf26 (And.intro @cf27 (And.intro @cf28 (And.intro @cf29 (And.intro @cf30 (And.intro @cf31 (And.intro @cf32 (And.intro @cf33 (And.intro @cf34 (And.intro @cf35 (And.intro @cf36 (And.intro @cf37 (And.intro @cf38 (And.intro @cf39 (And.intro @cf40 (And.intro @cf41 (And.intro @cf42 (And.intro @cf43 (And.intro @cf44 (And.intro @cf45 (And.intro @cf46 (And.intro @cf47 (And.intro @cf48 (And.intro @cf49 (And.intro @cf50 (And.intro @cf51 (And.intro @cf52 (And.intro @cf53 (And.intro @cf55 (And.intro @cf56 (And.intro @cf57 (And.intro @cf58 (And.intro @cf59 (And.intro @cf60 (And.intro @cf61 (And.intro @cf62 (And.intro @cf63 (And.intro @cf64 (And.intro @cf65 (And.intro @cf66 (And.intro @cf67 (And.intro @cf68 (And.intro @cf69 (And.intro @cf70 (And.intro @cf71 (And.intro @cf72 (And.intro @cf73 (And.intro @cf74 (And.intro @cf75 (And.intro @cf76 (And.intro @cf77 (And.intro @cf78 (And.intro @cf80 (And.intro @cf81 (And.intro @cf82 (And.intro @cf83 (And.intro @cf84 (And.intro @cf85 (And.intro @cf86 (And.intro @cf87 (And.intro @cf88 (And.intro @cf89 (And.intro @cf90 (And.intro @cf91 (And.intro @cf93 (And.intro @cf94 (And.intro @cf95 (And.intro @cf96 (And.intro @cf97 (And.intro @cf98 (And.intro @cf100 (@cf122)))))))))))))))))))))))))))))))))))))))))))))))))))))))))))))))))))))))))))))))))))))))))))))))))))))
def rr := And.intro @rr0 (And.intro @rr1 (And.intro @rr2 (And.intro @rr3 (And.intro @rr4 (@rr5)))))
end Go.Proofs.YtghmmockgbiehaaDoor.VH.S
end

section
namespace Go.Proofs.YtghmmockgbiehaaDoor.VH.S
open Go.Proofs
set_option maxRecDepth 100000
set_option maxHeartbeats 4000000
set_option linter.unusedSimpArgs false

theorem e47 (d : Nat) (x lo hi : Int) : evFun E (d+1) 47 [vi x, vi lo, vi hi] [] = some (vb (decide (x ≥ lo) && decide (x ≤ hi)), []) := by
  refine evFun_body b47 ?_
  simp only [vv, qa, qa0, clash, meets, execOp, evBox, opnd, qa1, bin, convHM, qa2, qa3, qa4, qa5, qa6, qa7, zOK, qa8, qa9, borL, isSl, qb, qb0, qb1, qb2, qb3, qb4, cellsOf, TD.agg, qb5, qb6, qb7, qb8, qb9, qc, qc0, qc1, setAt, qc2, qc3, qc4, getR, qc5, qc6, qc7, qc8, qc9, Array.toList, List.map, Option.isSome_none, bne_self_eq_false, reduceIte, reduceCtorEq, Nat.reduceEqDiff, Nat.reduceAdd, Nat.reduceMul, Nat.reduceSub, Nat.reduceBEq, Nat.reduceLeDiff, Int.reduceEq, Int.reduceLT, Int.reduceLE, Int.reduceGE, Int.reduceGT, Int.reduceBEq, Int.reduceBNe, Int.reduceToNat, Int.reduceNeg, Int.reduceSub, Int.reduceAdd, Int.reduceMul, rr, Tryd.f47]
  refine opG_elim (fun h => ?_) (fun h => ?_) <;> simp only [vv, qa, qa0, clash, meets, execOp, evBox, opnd, qa1, bin, convHM, qa2, qa3, qa4, qa5, qa6, qa7, zOK, qa8, qa9, borL, isSl, qb, qb0, qb1, qb2, qb3, qb4, cellsOf, TD.agg, qb5, qb6, qb7, qb8, qb9, qc, qc0, qc1, setAt, qc2, qc3, qc4, getR, qc5, qc6, qc7, qc8, qc9, Array.toList, List.map, Option.isSome_none, bne_self_eq_false, reduceIte, reduceCtorEq, Nat.reduceEqDiff, Nat.reduceAdd, Nat.reduceMul, Nat.reduceSub, Nat.reduceBEq, Nat.reduceLeDiff, Int.reduceEq, Int.reduceLT, Int.reduceLE, Int.reduceGE, Int.reduceGT, Int.reduceBEq, Int.reduceBNe, Int.reduceToNat, Int.reduceNeg, Int.reduceSub, Int.reduceAdd, Int.reduceMul, rr, h] <;> simp only [vv, ff, qa, qa0, clash, meets, execOp, evBox, opnd, qa1, bin, convHM, qa2, qa3, qa4, qa5, qa6, qa7, zOK, qa8, qa9, borL, isSl, qb, qb0, qb1, qb2, qb3, qb4, cellsOf, TD.agg, qb5, qb6, qb7, qb8, qb9, qc, qc0, qc1, setAt, qc2, qc3, qc4, getR, qc5, qc6, qc7, qc8, qc9, Array.toList, List.map, Option.isSome_none, bne_self_eq_false, reduceIte, reduceCtorEq, Nat.reduceEqDiff, Nat.reduceAdd, Nat.reduceMul, Nat.reduceSub, Nat.reduceBEq, Nat.reduceLeDiff, Int.reduceEq, Int.reduceLT, Int.reduceLE, Int.reduceGE, Int.reduceGT, Int.reduceBEq, Int.reduceBNe, Int.reduceToNat, Int.reduceNeg, Int.reduceSub, Int.reduceAdd, Int.reduceMul, finish, qe8, resOf, resa, qe9, qf, qf0, keep, qf1, qf2, qf3, qe6, qe7, rr]
theorem e49 (d : Nat) (x lo hi : Int) : evFun E (d+1) 49 [vi x, vi lo, vi hi] [] = some (vb (decide (x ≥ lo) && decide (x ≤ hi)), []) := by
  refine evFun_body b49 ?_
  simp only [vv, qa, qa0, clash, meets, execOp, evBox, opnd, qa1, bin, convHM, qa2, qa3, qa4, qa5, qa6, qa7, zOK, qa8, qa9, borL, isSl, qb, qb0, qb1, qb2, qb3, qb4, cellsOf, TD.agg, qb5, qb6, qb7, qb8, qb9, qc, qc0, qc1, setAt, qc2, qc3, qc4, getR, qc5, qc6, qc7, qc8, qc9, Array.toList, List.map, Option.isSome_none, bne_self_eq_false, reduceIte, reduceCtorEq, Nat.reduceEqDiff, Nat.reduceAdd, Nat.reduceMul, Nat.reduceSub, Nat.reduceBEq, Nat.reduceLeDiff, Int.reduceEq, Int.reduceLT, Int.reduceLE, Int.reduceGE, Int.reduceGT, Int.reduceBEq, Int.reduceBNe, Int.reduceToNat, Int.reduceNeg, Int.reduceSub, Int.reduceAdd, Int.reduceMul, rr, Tryd.f49]
  refine opG_elim (fun h => ?_) (fun h => ?_) <;> simp only [vv, qa, qa0, clash, meets, execOp, evBox, opnd, qa1, bin, convHM, qa2, qa3, qa4, qa5, qa6, qa7, zOK, qa8, qa9, borL, isSl, qb, qb0, qb1, qb2, qb3, qb4, cellsOf, TD.agg, qb5, qb6, qb7, qb8, qb9, qc, qc0, qc1, setAt, qc2, qc3, qc4, getR, qc5, qc6, qc7, qc8, qc9, Array.toList, List.map, Option.isSome_none, bne_self_eq_false, reduceIte, reduceCtorEq, Nat.reduceEqDiff, Nat.reduceAdd, Nat.reduceMul, Nat.reduceSub, Nat.reduceBEq, Nat.reduceLeDiff, Int.reduceEq, Int.reduceLT, Int.reduceLE, Int.reduceGE, Int.reduceGT, Int.reduceBEq, Int.reduceBNe, Int.reduceToNat, Int.reduceNeg, Int.reduceSub, Int.reduceAdd, Int.reduceMul, rr, h] <;> simp only [vv, ff, qa, qa0, clash, meets, execOp, evBox, opnd, qa1, bin, convHM, qa2, qa3, qa4, qa5, qa6, qa7, zOK, qa8, qa9, borL, isSl, qb, qb0, qb1, qb2, qb3, qb4, cellsOf, TD.agg, qb5, qb6, qb7, qb8, qb9, qc, qc0, qc1, setAt, qc2, qc3, qc4, getR, qc5, qc6, qc7, qc8, qc9, Array.toList, List.map, Option.isSome_none, bne_self_eq_false, reduceIte, reduceCtorEq, Nat.reduceEqDiff, Nat.reduceAdd, Nat.reduceMul, Nat.reduceSub, Nat.reduceBEq, Nat.reduceLeDiff, Int.reduceEq, Int.reduceLT, Int.reduceLE, Int.reduceGE, Int.reduceGT, Int.reduceBEq, Int.reduceBNe, Int.reduceToNat, Int.reduceNeg, Int.reduceSub, Int.reduceAdd, Int.reduceMul, finish, qe8, resOf, resa, qe9, qf, qf0, keep, qf1, qf2, qf3, qe6, qe7, rr]
abbrev bad (x : Int) : Bool := !(decide (x ≥ 0) && decide (x ≤ 1152921504606846975))
end Go.Proofs.YtghmmockgbiehaaDoor.VH.S
end

section
namespace Go.Proofs.YtghmmockgbiehaaDoor.VH.S
open Go.Proofs
set_option maxRecDepth 100000
set_option maxHeartbeats 4000000
set_option linter.unusedSimpArgs false

theorem a13 : andU 13 63 = 13 := by decide
end Go.Proofs.YtghmmockgbiehaaDoor.VH.S
end

section
namespace Go.Proofs.YtghmmockgbiehaaDoor.VH.S
open Go.Proofs
set_option maxRecDepth 100000
set_option maxHeartbeats 4000000
set_option linter.unusedSimpArgs false

end Go.Proofs.YtghmmockgbiehaaDoor.VH.S
end

section
namespace Go.Proofs.YtghmmockgbiehaaDoor.VH.S
open Go.Proofs
set_option maxRecDepth 100000
set_option maxHeartbeats 4000000
set_option linter.unusedSimpArgs false

theorem e50 (d : Nat) (x : Int) : evFun E (d+2) 50 [vi x] [] = some (vb (decide (x ≥ 0) && decide (x ≤ 1152921504606846975)), []) := by
  refine evFun_body b50 ?_
  simp only [vv, cc, qa, qa0, clash, meets, execOp, evBox, opnd, qa1, bin, convHM, qa2, qa3, qa4, qa5, qa6, qa7, zOK, qa8, qa9, borL, isSl, qb, qb0, qb1, qb2, qb3, qb4, cellsOf, TD.agg, qb5, qb6, qb7, qb8, qb9, qc, qc0, qc1, setAt, qc2, qc3, qc4, getR, qc5, qc6, qc7, qc8, qc9, Array.toList, List.map, Option.isSome_none, bne_self_eq_false, reduceIte, reduceCtorEq, Nat.reduceEqDiff, Nat.reduceAdd, Nat.reduceMul, Nat.reduceSub, Nat.reduceBEq, Nat.reduceLeDiff, Int.reduceEq, Int.reduceLT, Int.reduceLE, Int.reduceGE, Int.reduceGT, Int.reduceBEq, Int.reduceBNe, Int.reduceToNat, Int.reduceNeg, Int.reduceSub, Int.reduceAdd, Int.reduceMul, qd, qd0, qd1, qd2, qd3, qd4, qd5, qd6, qd7, qd8, qd9, qe, qe0, qe1, qe2, qe3, qe4, qe5, qe6, qe7, rr, Tryd.f50, e49]
  simp only [vv, ff, qa, qa0, clash, meets, execOp, evBox, opnd, qa1, bin, convHM, qa2, qa3, qa4, qa5, qa6, qa7, zOK, qa8, qa9, borL, isSl, qb, qb0, qb1, qb2, qb3, qb4, cellsOf, TD.agg, qb5, qb6, qb7, qb8, qb9, qc, qc0, qc1, setAt, qc2, qc3, qc4, getR, qc5, qc6, qc7, qc8, qc9, Array.toList, List.map, Option.isSome_none, bne_self_eq_false, reduceIte, reduceCtorEq, Nat.reduceEqDiff, Nat.reduceAdd, Nat.reduceMul, Nat.reduceSub, Nat.reduceBEq, Nat.reduceLeDiff, Int.reduceEq, Int.reduceLT, Int.reduceLE, Int.reduceGE, Int.reduceGT, Int.reduceBEq, Int.reduceBNe, Int.reduceToNat, Int.reduceNeg, Int.reduceSub, Int.reduceAdd, Int.reduceMul, finish, qe8, resOf, resa, qe9, qf, qf0, keep, qf1, qf2, qf3, qe6, qe7, rr]
end Go.Proofs.YtghmmockgbiehaaDoor.VH.S
end

section
namespace Go.Proofs.YtghmmockgbiehaaDoor.VH.S
open Go.Proofs
set_option maxRecDepth 100000
set_option maxHeartbeats 4000000
set_option linter.unusedSimpArgs false

end Go.Proofs.YtghmmockgbiehaaDoor.VH.S
end

section
namespace Go.Proofs.YtghmmockgbiehaaDoor.VH.S
open Go.Proofs
set_option maxRecDepth 100000
set_option maxHeartbeats 4000000
set_option linter.unusedSimpArgs false

end Go.Proofs.YtghmmockgbiehaaDoor.VH.S
end

section
namespace Go.Proofs.YtghmmockgbiehaaDoor.VH.S
open Go.Proofs
set_option maxRecDepth 100000
set_option maxHeartbeats 4000000
set_option linter.unusedSimpArgs false

end Go.Proofs.YtghmmockgbiehaaDoor.VH.S
end

section
namespace Go.Proofs.YtghmmockgbiehaaDoor.VH.S
open Go.Proofs
set_option maxRecDepth 100000
set_option maxHeartbeats 8000000
set_option linter.unusedSimpArgs false

/- Names. -/
def setC (g : Nat → Bool) : List AV := (List.range 256).map fun c => vb (g c)
theorem setC_len (g : Nat → Bool) : (setC g).length = 256 := by simp [setC]
theorem setC_get (g : Nat → Bool) {c : Nat} (h : c < 256) : g1 (setC g) c = some (vb (g c)) := by simp [g1, setC, h]
theorem setC_set (g : Nat → Bool) {c : Nat} (h : c < 256) : (setC g).set c (vb true) = setC (fun x => decide (x = c) || g x) := by
  apply List.ext_getElem?
  intro j
  by_cases e : c = j
  · subst e; rw [List.getElem?_set_self (by rw [setC_len]; exact h)]; simp [setC, h]
  · rw [List.getElem?_set_ne e]
    have : ¬ j = c := fun h => e h.symm
    by_cases hj : j < 256
    · simp [setC, hj, this]
    · simp [setC, hj]
theorem noSnapL_bool : ∀ l : List Bool, qf (l.map vb) = true
  | [] => rfl
  | b :: l => by simp only [List.map_cons, qf, qe9, noSnapL_bool l]; rfl
theorem setC_map (g : Nat → Bool) : setC g = ((List.range 256).map g).map vb := by simp [setC]
theorem setC_snap (g : Nat → Bool) : qf (setC g) = true := by rw [setC_map]; exact noSnapL_bool _
theorem anyOwn_bool : ∀ l : List Bool, (l.map vb).any qb8 = false
  | [] => rfl
  | b :: l => by simp only [List.map_cons, List.any_cons, anyOwn_bool l, qb8]; rfl
theorem setC_own (g : Nat → Bool) : (setC g).any qb8 = false := by rw [setC_map]; exact anyOwn_bool _
theorem absorb_bool : ∀ l : List Bool, qc0 (l.map vb) = .ret (l.map vb)
  | [] => rfl
  | b :: l => by simp only [List.map_cons, qc0, absorb_bool l, qc1, guardB, qc4, cond_true, HM.bind]
theorem setC_abs (g : Nat → Bool) : qc0 (setC g) = .ret (setC g) := by rw [setC_map, absorb_bool]
theorem loaded_bool (k : Nat) (p : List Nat) : ∀ (l : List Bool) (i : Nat), qb5 k p i (l.map vb) = l.map vb
  | [], i => rfl
  | b :: l, i => by simp only [List.map_cons, qb5, qb6, loaded_bool k p l]
theorem setC_load (g : Nat → Bool) (k : Nat) (p : List Nat) (i : Nat) : qb5 k p i (setC g) = setC g := by rw [setC_map, loaded_bool]
theorem getR_whole {cs : List AV} {n : Nat} (h : cs.length = n) : getR cs 0 n = some cs := getR_of h fun j hj => by rw [Nat.zero_add, List.getElem?_eq_getElem hj]
theorem keys_bool : ∀ l : List Bool, qf2 (l.map vb) = []
  | [] => rfl
  | b :: l => by simp only [List.map_cons, qf2, qf3, keys_bool l]; rfl
theorem setC_keys (g : Nat → Bool) : qf2 (setC g) = [] := by rw [setC_map]; exact keys_bool _
theorem ren_bool (ρ : Nat → Nat) : ∀ l : List Bool, qe7 ρ (l.map vb) = l.map vb
  | [] => rfl
  | b :: l => by simp only [List.map_cons, qe7, qe6, ren_bool ρ l]
theorem setC_ren (g : Nat → Bool) (ρ : Nat → Nat) : qe7 ρ (setC g) = setC g := by rw [setC_map, ren_bool]
theorem setC_getR (g : Nat → Bool) : getR (setC g) 0 256 = some (setC g) := getR_whole (setC_len g)
theorem setAt_whole {cs xs : List AV} (h : xs.length = cs.length) : setAt cs 0 xs = xs := by
  rw [setAt_put _ _ _ (by omega), putL]
  simp [h]
theorem setC_setAt (f g : Nat → Bool) : setAt (setC f) 0 (setC g) = setC g := setAt_whole (by rw [setC_len, setC_len])
theorem zero256 : (List.replicate 256 (Value.bool false)).map AV.val = setC fun _ => false := by rw [setC, List.map_const', List.length_range, List.map_replicate]

theorem e86 (d : Nat) (g : Nat → Bool) (b : UInt8) : evFun E (d+1) 86 [.ptr 0 [] 0, .val (.int .u8 b.toNat)] [setC g] = some (vb (g b.toNat), [some (setC g)]) := by
  refine evFun_body b86 ?_
  have hb : b.toNat < 256 := UInt8.toNat_lt _
  have hg := setC_get g hb
  (repeat' (first | simp (maxDischargeDepth := 8) only [go_sem, rr, reduceIte, reduceCtorEq, Nat.reduceEqDiff, Nat.reduceAdd, Nat.reduceMul, Nat.reduceSub, Nat.reduceBEq, Nat.reduceLeDiff, Int.reduceEq, Int.reduceLT, Int.reduceLE, Int.reduceGE, Int.reduceGT, Int.reduceBEq, Int.reduceBNe, Int.reduceToNat, Int.reduceNeg, Int.reduceSub, Int.reduceAdd, Int.reduceMul, hg, setC_snap, Tryd.f86] | (with_reducible refine qg6 ?_ ?_; focus (first | (simp (maxDischargeDepth := 8) only [bb, kk, hg, setC_snap]; done) | kernel_rfl)) | ((with_reducible first | refine qf4 ?_ ?_ | refine qf5 ?_ ?_ | refine qf6 ?_ ?_ | refine qf7 ?_ ?_ | refine qf8 ?_ ?_ | refine qf9 ?_ ?_ | refine qg ?_ ?_); focus (first | assumption | omega | (simp only [bz, hg, setC_snap]; omega))) | ((with_reducible first | refine qg0 ?_ ?_ | refine qg1 ?_ ?_ | refine qg2 ?_ ?_); focus (first | assumption | omega | (simp only [bz, hg, setC_snap]; omega))) | ((with_reducible first | refine g1_u8w ?_ ?_ | refine qg4 ?_ ?_); (focus ((repeat' (with_reducible apply And.intro)) <;> (first | assumption | omega | (simp only [bz, hg, setC_snap]; omega) | (simp (maxDischargeDepth := 8) only [bb, hg, setC_snap]; done)))); intro _)))
/-- how many of the last bytes are in a set -/
def trR (g : Nat → Bool) (l : List UInt8) : Nat := (l.reverse.takeWhile fun b => g b.toNat).length
def trL (g : Nat → Bool) (l : List UInt8) : Nat := (l.takeWhile fun b => g b.toNat).length
theorem takeWhile_lt {α : Type} (p : α → Bool) : ∀ (l : List α) (i : Nat), i < (l.takeWhile p).length → ∃ h : i < l.length, p l[i] = true
  | [], i, h => by simp at h
  | a :: l, i, h => by
    rw [List.takeWhile_cons] at h
    split at h
    · rename_i hp
      cases i with
      | zero => exact ⟨by simp, by simpa using hp⟩
      | succ i =>
        obtain ⟨h1, h2⟩ := takeWhile_lt p l i (by simpa using h)
        exact ⟨by simp; omega, by simpa using h2⟩
    · simp at h
theorem takeWhile_at {α : Type} (p : α → Bool) : ∀ (l : List α) (h : (l.takeWhile p).length < l.length), p l[(l.takeWhile p).length] = false
  | [], h => by simp at h
  | a :: l, h => by
    cases hp : p a with
    | false => simp [List.takeWhile_cons, hp]
    | true =>
      have := takeWhile_at p l (by simpa [List.takeWhile_cons, hp] using h)
      simpa [List.takeWhile_cons, hp] using this
theorem takeWhile_all {α : Type} (p : α → Bool) : ∀ l : List α, (∀ b ∈ l, p b = true) → l.takeWhile p = l
  | [], _ => rfl
  | a :: l, h => by rw [List.takeWhile_cons, if_pos (h a (by simp)), takeWhile_all p l fun b hb => h b (by simp [hb])]
theorem takeWhile_le {α : Type} (p : α → Bool) : ∀ l : List α, (l.takeWhile p).length ≤ l.length
  | [] => by simp
  | a :: l => by
    rw [List.takeWhile_cons]
    split
    · simp [takeWhile_le p l]
    · simp
theorem e76 (d : Nat) (g : Nat → Bool) (l : List UInt8) (hl : l.length ≤ 549755813888) : evFun E (d+2) 76 [vs l, .ptr 0 [] 0] [setC g] = some (vs (l.take (l.length - trR g l)), [some (setC g)]) := by
  refine evFun_body b76 ?_
  have hle : trR g l ≤ l.length := by have := takeWhile_le (fun b : UInt8 => g b.toNat) l.reverse; simpa [trR] using this
  (repeat' (first | simp (maxDischargeDepth := 8) only [go_sem, rr, reduceIte, reduceCtorEq, Nat.reduceEqDiff, Nat.reduceAdd, Nat.reduceMul, Nat.reduceSub, Nat.reduceBEq, Nat.reduceLeDiff, Int.reduceEq, Int.reduceLT, Int.reduceLE, Int.reduceGE, Int.reduceGT, Int.reduceBEq, Int.reduceBNe, Int.reduceToNat, Int.reduceNeg, Int.reduceSub, Int.reduceAdd, Int.reduceMul, Tryd.f76] | (with_reducible refine qg6 ?_ ?_; focus (first | (simp (maxDischargeDepth := 8) only [bb, kk]; done) | kernel_rfl)) | ((with_reducible first | refine qf4 ?_ ?_ | refine qf5 ?_ ?_ | refine qf6 ?_ ?_ | refine qf7 ?_ ?_ | refine qf8 ?_ ?_ | refine qf9 ?_ ?_ | refine qg ?_ ?_); focus (first | assumption | omega | (simp only [bz]; omega))) | ((with_reducible first | refine qg0 ?_ ?_ | refine qg1 ?_ ?_ | refine qg2 ?_ ?_); focus (first | assumption | omega | (simp only [bz]; omega))) | ((with_reducible first | refine g1_u8w ?_ ?_ | refine qg4 ?_ ?_); (focus ((repeat' (with_reducible apply And.intro)) <;> (first | assumption | omega | (simp only [bz]; omega) | (simp (maxDischargeDepth := 8) only [bb]; done)))); intro _)))
  refine loop_go (fun i => {T := tp [(0, vs (l.take (l.length - i))), (1, .ptr 0 [] 0)], H := hp [some (setC g)], nx := 1}) (trR g l) ?_ (lt_LF (by omega)) (fun i hi Kn hK => ?_) (fun Kn => ?_)
  · simp only [vv, ff, norm, Array.toList, List.map, Option.isSome_none, bne_self_eq_false, reduceIte, reduceCtorEq, Nat.reduceEqDiff, Nat.reduceAdd, Nat.reduceMul, Nat.reduceSub, Nat.reduceBEq, Nat.reduceLeDiff, Int.reduceEq, Int.reduceLT, Int.reduceLE, Int.reduceGE, Int.reduceGT, Int.reduceBEq, Int.reduceBNe, Int.reduceToNat, Int.reduceNeg, Int.reduceSub, Int.reduceAdd, Int.reduceMul, finish, qe8, resOf, resa, qe9, qf, qf0, keep, qf1, qf2, qf3, qe6, qe7, Nat.sub_zero, List.take_length]
  · obtain ⟨h1, h2⟩ := takeWhile_lt (fun b : UInt8 => g b.toNat) l.reverse i hi
    rw [List.length_reverse] at h1
    rw [List.getElem_reverse] at h2
    have hlen : (l.take (l.length - i)).length = l.length - i := by simp
    have hb : g (bA (l.take (l.length - i)) (l.length - i - 1)).toNat = true := by
      rw [bA_get (by omega), List.getElem_take]
      rw [← h2]; congr 2; congr 1; omega
    have ht : (l.take (l.length - i)).take (l.length - i - 1) = l.take (l.length - (i + 1)) := by
      rw [List.take_take]; congr 1; omega
    (have fz := ga3 hlen hb ht; repeat' (first | simp (maxDischargeDepth := 8) only [go_sem, rr, reduceIte, reduceCtorEq, Nat.reduceEqDiff, Nat.reduceAdd, Nat.reduceMul, Nat.reduceSub, Nat.reduceBEq, Nat.reduceLeDiff, Int.reduceEq, Int.reduceLT, Int.reduceLE, Int.reduceGE, Int.reduceGT, Int.reduceBEq, Int.reduceBNe, Int.reduceToNat, Int.reduceNeg, Int.reduceSub, Int.reduceAdd, Int.reduceMul, fz, setC_own] | (with_reducible refine qg6 ?_ ?_; focus (first | (simp (maxDischargeDepth := 8) only [bb, kk, fz, setC_own]; done) | kernel_rfl)) | ((with_reducible first | refine qf4 ?_ ?_ | refine qf5 ?_ ?_ | refine qf6 ?_ ?_ | refine qf7 ?_ ?_ | refine qf8 ?_ ?_ | refine qf9 ?_ ?_ | refine qg ?_ ?_); focus (first | assumption | omega | (simp only [bz, fz, setC_own]; omega))) | ((with_reducible first | refine qg0 ?_ ?_ | refine qg1 ?_ ?_ | refine qg2 ?_ ?_); focus (first | assumption | omega | (simp only [bz, fz, setC_own]; omega))) | ((with_reducible first | refine g1_u8w ?_ ?_ | refine qg4 ?_ ?_); (focus ((repeat' (with_reducible apply And.intro)) <;> (first | assumption | omega | (simp only [bz, fz, setC_own]; omega) | (simp (maxDischargeDepth := 8) only [bb, fz, setC_own]; done)))); intro _) | (with_reducible apply call_elim; focus ((with_reducible first | apply e86) <;> (first | assumption | omega | (simp only [bz, fz, setC_own]; omega) | (simp (maxDischargeDepth := 8) only [bb, fz, setC_own]; done))))))
    refine hK _ ?_
    simp only [vv, ff, norm, Array.toList, List.map, Option.isSome_none, bne_self_eq_false, reduceIte, reduceCtorEq, Nat.reduceEqDiff, Nat.reduceAdd, Nat.reduceMul, Nat.reduceSub, Nat.reduceBEq, Nat.reduceLeDiff, Int.reduceEq, Int.reduceLT, Int.reduceLE, Int.reduceGE, Int.reduceGT, Int.reduceBEq, Int.reduceBNe, Int.reduceToNat, Int.reduceNeg, Int.reduceSub, Int.reduceAdd, Int.reduceMul, finish, qe8, resOf, resa, qe9, qf, qf0, keep, qf1, qf2, qf3, qe6, qe7]
  · have hlen : (l.take (l.length - trR g l)).length = l.length - trR g l := by simp
    by_cases h0 : l.length - trR g l = 0
    · have h0' : trR g l = l.length := by omega
      (repeat' (first | simp (maxDischargeDepth := 8) only [go_sem, rr, reduceIte, reduceCtorEq, Nat.reduceEqDiff, Nat.reduceAdd, Nat.reduceMul, Nat.reduceSub, Nat.reduceBEq, Nat.reduceLeDiff, Int.reduceEq, Int.reduceLT, Int.reduceLE, Int.reduceGE, Int.reduceGT, Int.reduceBEq, Int.reduceBNe, Int.reduceToNat, Int.reduceNeg, Int.reduceSub, Int.reduceAdd, Int.reduceMul, hlen, setC_snap, setC_own] | (with_reducible refine qg6 ?_ ?_; focus (first | (simp (maxDischargeDepth := 8) only [bb, kk, hlen, setC_snap, setC_own]; done) | kernel_rfl)) | ((with_reducible first | refine qf4 ?_ ?_ | refine qf5 ?_ ?_ | refine qf6 ?_ ?_ | refine qf7 ?_ ?_ | refine qf8 ?_ ?_ | refine qf9 ?_ ?_ | refine qg ?_ ?_); focus (first | assumption | omega | (simp only [bz, hlen, setC_snap, setC_own]; omega))) | ((with_reducible first | refine qg0 ?_ ?_ | refine qg1 ?_ ?_ | refine qg2 ?_ ?_); focus (first | assumption | omega | (simp only [bz, hlen, setC_snap, setC_own]; omega))) | ((with_reducible first | refine g1_u8w ?_ ?_ | refine qg4 ?_ ?_); (focus ((repeat' (with_reducible apply And.intro)) <;> (first | assumption | omega | (simp only [bz, hlen, setC_snap, setC_own]; omega) | (simp (maxDischargeDepth := 8) only [bb, hlen, setC_snap, setC_own]; done)))); intro _)))
    · have hb : g (bA (l.take (l.length - trR g l)) (l.length - trR g l - 1)).toNat = false := by
        have := takeWhile_at (fun b : UInt8 => g b.toNat) l.reverse (by rw [List.length_reverse]; show trR g l < _; omega)
        rw [List.getElem_reverse] at this
        rw [bA_get (by omega), List.getElem_take]
        rw [← this]; congr 2; congr 1; show l.length - trR g l - 1 = l.length - 1 - trR g l; omega
      (have fz := ga2 hlen hb; repeat' (first | simp (maxDischargeDepth := 8) only [go_sem, rr, reduceIte, reduceCtorEq, Nat.reduceEqDiff, Nat.reduceAdd, Nat.reduceMul, Nat.reduceSub, Nat.reduceBEq, Nat.reduceLeDiff, Int.reduceEq, Int.reduceLT, Int.reduceLE, Int.reduceGE, Int.reduceGT, Int.reduceBEq, Int.reduceBNe, Int.reduceToNat, Int.reduceNeg, Int.reduceSub, Int.reduceAdd, Int.reduceMul, fz, setC_snap, setC_own] | (with_reducible refine qg6 ?_ ?_; focus (first | (simp (maxDischargeDepth := 8) only [bb, kk, fz, setC_snap, setC_own]; done) | kernel_rfl)) | ((with_reducible first | refine qf4 ?_ ?_ | refine qf5 ?_ ?_ | refine qf6 ?_ ?_ | refine qf7 ?_ ?_ | refine qf8 ?_ ?_ | refine qf9 ?_ ?_ | refine qg ?_ ?_); focus (first | assumption | omega | (simp only [bz, fz, setC_snap, setC_own]; omega))) | ((with_reducible first | refine qg0 ?_ ?_ | refine qg1 ?_ ?_ | refine qg2 ?_ ?_); focus (first | assumption | omega | (simp only [bz, fz, setC_snap, setC_own]; omega))) | ((with_reducible first | refine g1_u8w ?_ ?_ | refine qg4 ?_ ?_); (focus ((repeat' (with_reducible apply And.intro)) <;> (first | assumption | omega | (simp only [bz, fz, setC_snap, setC_own]; omega) | (simp (maxDischargeDepth := 8) only [bb, fz, setC_snap, setC_own]; done)))); intro _) | (with_reducible apply call_elim; focus ((with_reducible first | apply e86) <;> (first | assumption | omega | (simp only [bz, fz, setC_snap, setC_own]; omega) | (simp (maxDischargeDepth := 8) only [bb, fz, setC_snap, setC_own]; done))))))
theorem e75 (d : Nat) (g : Nat → Bool) (l : List UInt8) (hl : l.length ≤ 549755813888) : evFun E (d+2) 75 [vs l, .ptr 0 [] 0] [setC g] = some (vs (l.drop (trL g l)), [some (setC g)]) := by
  refine evFun_body b75 ?_
  have hle : trL g l ≤ l.length := takeWhile_le (fun b : UInt8 => g b.toNat) l
  (repeat' (first | simp (maxDischargeDepth := 8) only [go_sem, rr, reduceIte, reduceCtorEq, Nat.reduceEqDiff, Nat.reduceAdd, Nat.reduceMul, Nat.reduceSub, Nat.reduceBEq, Nat.reduceLeDiff, Int.reduceEq, Int.reduceLT, Int.reduceLE, Int.reduceGE, Int.reduceGT, Int.reduceBEq, Int.reduceBNe, Int.reduceToNat, Int.reduceNeg, Int.reduceSub, Int.reduceAdd, Int.reduceMul, Tryd.f75] | (with_reducible refine qg6 ?_ ?_; focus (first | (simp (maxDischargeDepth := 8) only [bb, kk]; done) | kernel_rfl)) | ((with_reducible first | refine qf4 ?_ ?_ | refine qf5 ?_ ?_ | refine qf6 ?_ ?_ | refine qf7 ?_ ?_ | refine qf8 ?_ ?_ | refine qf9 ?_ ?_ | refine qg ?_ ?_); focus (first | assumption | omega | (simp only [bz]; omega))) | ((with_reducible first | refine qg0 ?_ ?_ | refine qg1 ?_ ?_ | refine qg2 ?_ ?_); focus (first | assumption | omega | (simp only [bz]; omega))) | ((with_reducible first | refine g1_u8w ?_ ?_ | refine qg4 ?_ ?_); (focus ((repeat' (with_reducible apply And.intro)) <;> (first | assumption | omega | (simp only [bz]; omega) | (simp (maxDischargeDepth := 8) only [bb]; done)))); intro _)))
  refine loop_go (fun i => {T := tp [(0, vs (l.drop i)), (1, .ptr 0 [] 0)], H := hp [some (setC g)], nx := 1}) (trL g l) ?_ (lt_LF (by omega)) (fun i hi Kn hK => ?_) (fun Kn => ?_)
  · simp only [vv, ff, norm, Array.toList, List.map, Option.isSome_none, bne_self_eq_false, reduceIte, reduceCtorEq, Nat.reduceEqDiff, Nat.reduceAdd, Nat.reduceMul, Nat.reduceSub, Nat.reduceBEq, Nat.reduceLeDiff, Int.reduceEq, Int.reduceLT, Int.reduceLE, Int.reduceGE, Int.reduceGT, Int.reduceBEq, Int.reduceBNe, Int.reduceToNat, Int.reduceNeg, Int.reduceSub, Int.reduceAdd, Int.reduceMul, finish, qe8, resOf, resa, qe9, qf, qf0, keep, qf1, qf2, qf3, qe6, qe7, List.drop_zero]
  · obtain ⟨h1, h2⟩ := takeWhile_lt (fun b : UInt8 => g b.toNat) l i hi
    have hlen : (l.drop i).length = l.length - i := by simp
    have hb : g (bA (l.drop i) 0).toNat = true := by
      rw [bA_get (by omega), List.getElem_drop]; exact h2
    have ht : ((l.drop i).take (l.length - i)).drop 1 = l.drop (i + 1) := by
      rw [List.take_of_length_le (by omega), List.drop_drop]
    (have fz := ga3 hlen hb ht; repeat' (first | simp (maxDischargeDepth := 8) only [go_sem, rr, reduceIte, reduceCtorEq, Nat.reduceEqDiff, Nat.reduceAdd, Nat.reduceMul, Nat.reduceSub, Nat.reduceBEq, Nat.reduceLeDiff, Int.reduceEq, Int.reduceLT, Int.reduceLE, Int.reduceGE, Int.reduceGT, Int.reduceBEq, Int.reduceBNe, Int.reduceToNat, Int.reduceNeg, Int.reduceSub, Int.reduceAdd, Int.reduceMul, fz, setC_own] | (with_reducible refine qg6 ?_ ?_; focus (first | (simp (maxDischargeDepth := 8) only [bb, kk, fz, setC_own]; done) | kernel_rfl)) | ((with_reducible first | refine qf4 ?_ ?_ | refine qf5 ?_ ?_ | refine qf6 ?_ ?_ | refine qf7 ?_ ?_ | refine qf8 ?_ ?_ | refine qf9 ?_ ?_ | refine qg ?_ ?_); focus (first | assumption | omega | (simp only [bz, fz, setC_own]; omega))) | ((with_reducible first | refine qg0 ?_ ?_ | refine qg1 ?_ ?_ | refine qg2 ?_ ?_); focus (first | assumption | omega | (simp only [bz, fz, setC_own]; omega))) | ((with_reducible first | refine g1_u8w ?_ ?_ | refine qg4 ?_ ?_); (focus ((repeat' (with_reducible apply And.intro)) <;> (first | assumption | omega | (simp only [bz, fz, setC_own]; omega) | (simp (maxDischargeDepth := 8) only [bb, fz, setC_own]; done)))); intro _) | (with_reducible apply call_elim; focus ((with_reducible first | apply e86) <;> (first | assumption | omega | (simp only [bz, fz, setC_own]; omega) | (simp (maxDischargeDepth := 8) only [bb, fz, setC_own]; done))))))
    refine hK _ ?_
    simp only [vv, ff, norm, Array.toList, List.map, Option.isSome_none, bne_self_eq_false, reduceIte, reduceCtorEq, Nat.reduceEqDiff, Nat.reduceAdd, Nat.reduceMul, Nat.reduceSub, Nat.reduceBEq, Nat.reduceLeDiff, Int.reduceEq, Int.reduceLT, Int.reduceLE, Int.reduceGE, Int.reduceGT, Int.reduceBEq, Int.reduceBNe, Int.reduceToNat, Int.reduceNeg, Int.reduceSub, Int.reduceAdd, Int.reduceMul, finish, qe8, resOf, resa, qe9, qf, qf0, keep, qf1, qf2, qf3, qe6, qe7, show (l.drop i).drop 1 = l.drop (i + 1) from List.drop_drop]
  · have hlen : (l.drop (trL g l)).length = l.length - trL g l := by simp
    by_cases h0 : l.length - trL g l = 0
    · (repeat' (first | simp (maxDischargeDepth := 8) only [go_sem, rr, reduceIte, reduceCtorEq, Nat.reduceEqDiff, Nat.reduceAdd, Nat.reduceMul, Nat.reduceSub, Nat.reduceBEq, Nat.reduceLeDiff, Int.reduceEq, Int.reduceLT, Int.reduceLE, Int.reduceGE, Int.reduceGT, Int.reduceBEq, Int.reduceBNe, Int.reduceToNat, Int.reduceNeg, Int.reduceSub, Int.reduceAdd, Int.reduceMul, hlen, setC_snap, setC_own] | (with_reducible refine qg6 ?_ ?_; focus (first | (simp (maxDischargeDepth := 8) only [bb, kk, hlen, setC_snap, setC_own]; done) | kernel_rfl)) | ((with_reducible first | refine qf4 ?_ ?_ | refine qf5 ?_ ?_ | refine qf6 ?_ ?_ | refine qf7 ?_ ?_ | refine qf8 ?_ ?_ | refine qf9 ?_ ?_ | refine qg ?_ ?_); focus (first | assumption | omega | (simp only [bz, hlen, setC_snap, setC_own]; omega))) | ((with_reducible first | refine qg0 ?_ ?_ | refine qg1 ?_ ?_ | refine qg2 ?_ ?_); focus (first | assumption | omega | (simp only [bz, hlen, setC_snap, setC_own]; omega))) | ((with_reducible first | refine g1_u8w ?_ ?_ | refine qg4 ?_ ?_); (focus ((repeat' (with_reducible apply And.intro)) <;> (first | assumption | omega | (simp only [bz, hlen, setC_snap, setC_own]; omega) | (simp (maxDischargeDepth := 8) only [bb, hlen, setC_snap, setC_own]; done)))); intro _)))
    · have hb : g (bA (l.drop (trL g l)) 0).toNat = false := by
        have := takeWhile_at (fun b : UInt8 => g b.toNat) l (by show trL g l < _; omega)
        rw [bA_get (by omega), List.getElem_drop]
        exact this
      (have fz := ga2 hlen hb; repeat' (first | simp (maxDischargeDepth := 8) only [go_sem, rr, reduceIte, reduceCtorEq, Nat.reduceEqDiff, Nat.reduceAdd, Nat.reduceMul, Nat.reduceSub, Nat.reduceBEq, Nat.reduceLeDiff, Int.reduceEq, Int.reduceLT, Int.reduceLE, Int.reduceGE, Int.reduceGT, Int.reduceBEq, Int.reduceBNe, Int.reduceToNat, Int.reduceNeg, Int.reduceSub, Int.reduceAdd, Int.reduceMul, fz, setC_snap, setC_own] | (with_reducible refine qg6 ?_ ?_; focus (first | (simp (maxDischargeDepth := 8) only [bb, kk, fz, setC_snap, setC_own]; done) | kernel_rfl)) | ((with_reducible first | refine qf4 ?_ ?_ | refine qf5 ?_ ?_ | refine qf6 ?_ ?_ | refine qf7 ?_ ?_ | refine qf8 ?_ ?_ | refine qf9 ?_ ?_ | refine qg ?_ ?_); focus (first | assumption | omega | (simp only [bz, fz, setC_snap, setC_own]; omega))) | ((with_reducible first | refine qg0 ?_ ?_ | refine qg1 ?_ ?_ | refine qg2 ?_ ?_); focus (first | assumption | omega | (simp only [bz, fz, setC_snap, setC_own]; omega))) | ((with_reducible first | refine g1_u8w ?_ ?_ | refine qg4 ?_ ?_); (focus ((repeat' (with_reducible apply And.intro)) <;> (first | assumption | omega | (simp only [bz, fz, setC_snap, setC_own]; omega) | (simp (maxDischargeDepth := 8) only [bb, fz, setC_snap, setC_own]; done)))); intro _) | (with_reducible apply call_elim; focus ((with_reducible first | apply e86) <;> (first | assumption | omega | (simp only [bz, fz, setC_snap, setC_own]; omega) | (simp (maxDischargeDepth := 8) only [bb, fz, setC_snap, setC_own]; done))))))
/-- the signs of names -/
def signs : List UInt8 := [97, 98, 99, 100, 101, 102, 103, 104, 105, 106, 107, 108, 109, 110, 111, 112, 113, 114, 115, 116, 117, 118, 119, 120, 121, 122, 48, 49, 50, 51, 52, 53, 54, 55, 56, 57, 45]
def setG (l : List UInt8) (c : Nat) : Bool := l.any fun b => decide (c = b.toNat)
theorem setG_succ (l : List UInt8) {i : Nat} (h : i < l.length) : (fun x => decide (x = l[i].toNat) || setG (l.take i) x) = setG (l.take (i + 1)) := by
  funext x
  simp only [setG, List.take_succ_eq_append_getElem h, List.any_append, List.any_cons, List.any_nil, Bool.or_false]
  rw [Bool.or_comm]
theorem e74 (d : Nat) : evFun E (d+1) 74 [vs signs] [] = some (.tup [.agg (setC (setG signs)), vb true], []) := by
  refine evFun_body b74 ?_
  have hsl : signs.length = 37 := rfl
  (repeat' (first | simp (maxDischargeDepth := 8) only [go_sem, rr, reduceIte, reduceCtorEq, Nat.reduceEqDiff, Nat.reduceAdd, Nat.reduceMul, Nat.reduceSub, Nat.reduceBEq, Nat.reduceLeDiff, Int.reduceEq, Int.reduceLT, Int.reduceLE, Int.reduceGE, Int.reduceGT, Int.reduceBEq, Int.reduceBNe, Int.reduceToNat, Int.reduceNeg, Int.reduceSub, Int.reduceAdd, Int.reduceMul, zero256, Tryd.f74] | (with_reducible refine qg6 ?_ ?_; focus (first | (simp (maxDischargeDepth := 8) only [bb, kk, zero256]; done) | kernel_rfl)) | ((with_reducible first | refine qf4 ?_ ?_ | refine qf5 ?_ ?_ | refine qf6 ?_ ?_ | refine qf7 ?_ ?_ | refine qf8 ?_ ?_ | refine qf9 ?_ ?_ | refine qg ?_ ?_); focus (first | assumption | omega | (simp only [bz, zero256]; omega))) | ((with_reducible first | refine qg0 ?_ ?_ | refine qg1 ?_ ?_ | refine qg2 ?_ ?_); focus (first | assumption | omega | (simp only [bz, zero256]; omega))) | ((with_reducible first | refine g1_u8w ?_ ?_ | refine qg4 ?_ ?_); (focus ((repeat' (with_reducible apply And.intro)) <;> (first | assumption | omega | (simp only [bz, zero256]; omega) | (simp (maxDischargeDepth := 8) only [bb, zero256]; done)))); intro _)))
  refine loop_go (fun i => {T := tp [(0, vs signs), (2, .ptr 0 [] 0), (4, vi i)], H := hp [some (setC (setG (signs.take i)))], nx := 1}) 37 ?_ (lt_LF (by omega)) (fun i hi Kn hK => ?_) (fun Kn => ?_)
  · simp only [vv, ff, norm, Array.toList, List.map, Option.isSome_none, bne_self_eq_false, reduceIte, reduceCtorEq, Nat.reduceEqDiff, Nat.reduceAdd, Nat.reduceMul, Nat.reduceSub, Nat.reduceBEq, Nat.reduceLeDiff, Int.reduceEq, Int.reduceLT, Int.reduceLE, Int.reduceGE, Int.reduceGT, Int.reduceBEq, Int.reduceBNe, Int.reduceToNat, Int.reduceNeg, Int.reduceSub, Int.reduceAdd, Int.reduceMul, finish, qe8, resOf, resa, qe9, qf, qf0, keep, qf1, qf2, qf3, qe6, qe7, Int.natCast_zero]
    rfl
  · have hb : (bA signs i).toNat < 128 := by
      have : ∀ b ∈ signs, b.toNat < 128 := by decide
      rw [bA_get (by rw [hsl]; exact hi)]
      exact this _ (List.getElem_mem _)
    have hs := setC_set (setG (signs.take i)) (c := (bA signs i).toNat) (by omega)
    have hs2 : (fun x => decide (x = (bA signs i).toNat) || setG (signs.take i) x) = setG (signs.take (i + 1)) := by
      rw [bA_get (by rw [hsl]; exact hi)]
      exact setG_succ signs (by rw [hsl]; exact hi)
    rw [hs2] at hs
    (have fz := ga2 hsl hs; repeat' (first | simp (maxDischargeDepth := 8) only [go_sem, rr, reduceIte, reduceCtorEq, Nat.reduceEqDiff, Nat.reduceAdd, Nat.reduceMul, Nat.reduceSub, Nat.reduceBEq, Nat.reduceLeDiff, Int.reduceEq, Int.reduceLT, Int.reduceLE, Int.reduceGE, Int.reduceGT, Int.reduceBEq, Int.reduceBNe, Int.reduceToNat, Int.reduceNeg, Int.reduceSub, Int.reduceAdd, Int.reduceMul, fz, setC_own, setC_len] | (with_reducible refine qg6 ?_ ?_; focus (first | (simp (maxDischargeDepth := 8) only [bb, kk, fz, setC_own, setC_len]; done) | kernel_rfl)) | ((with_reducible first | refine qf4 ?_ ?_ | refine qf5 ?_ ?_ | refine qf6 ?_ ?_ | refine qf7 ?_ ?_ | refine qf8 ?_ ?_ | refine qf9 ?_ ?_ | refine qg ?_ ?_); focus (first | assumption | omega | (simp only [bz, fz, setC_own, setC_len]; omega))) | ((with_reducible first | refine qg0 ?_ ?_ | refine qg1 ?_ ?_ | refine qg2 ?_ ?_); focus (first | assumption | omega | (simp only [bz, fz, setC_own, setC_len]; omega))) | ((with_reducible first | refine g1_u8w ?_ ?_ | refine qg4 ?_ ?_); (focus ((repeat' (with_reducible apply And.intro)) <;> (first | assumption | omega | (simp only [bz, fz, setC_own, setC_len]; omega) | (simp (maxDischargeDepth := 8) only [bb, fz, setC_own, setC_len]; done)))); intro _)))
    refine hK _ ?_
    simp only [vv, ff, norm, Array.toList, List.map, Option.isSome_none, bne_self_eq_false, reduceIte, reduceCtorEq, Nat.reduceEqDiff, Nat.reduceAdd, Nat.reduceMul, Nat.reduceSub, Nat.reduceBEq, Nat.reduceLeDiff, Int.reduceEq, Int.reduceLT, Int.reduceLE, Int.reduceGE, Int.reduceGT, Int.reduceBEq, Int.reduceBNe, Int.reduceToNat, Int.reduceNeg, Int.reduceSub, Int.reduceAdd, Int.reduceMul, finish, qe8, resOf, resa, qe9, qf, qf0, keep, qf1, qf2, qf3, qe6, qe7, Int.natCast_add, cst1]
  · have h37 : signs.take 37 = signs := List.take_of_length_le (by rw [hsl]; decide)
    (have fz := ga2 hsl h37; repeat' (first | simp (maxDischargeDepth := 8) only [go_sem, rr, reduceIte, reduceCtorEq, Nat.reduceEqDiff, Nat.reduceAdd, Nat.reduceMul, Nat.reduceSub, Nat.reduceBEq, Nat.reduceLeDiff, Int.reduceEq, Int.reduceLT, Int.reduceLE, Int.reduceGE, Int.reduceGT, Int.reduceBEq, Int.reduceBNe, Int.reduceToNat, Int.reduceNeg, Int.reduceSub, Int.reduceAdd, Int.reduceMul, fz, setC_own, setC_len, setC_getR, setC_load, setC_abs, setC_setAt, setC_snap, setC_keys, setC_ren] | (with_reducible refine qg6 ?_ ?_; focus (first | (simp (maxDischargeDepth := 8) only [bb, kk, fz, setC_own, setC_len, setC_getR, setC_load, setC_abs, setC_setAt, setC_snap, setC_keys, setC_ren]; done) | kernel_rfl)) | ((with_reducible first | refine qf4 ?_ ?_ | refine qf5 ?_ ?_ | refine qf6 ?_ ?_ | refine qf7 ?_ ?_ | refine qf8 ?_ ?_ | refine qf9 ?_ ?_ | refine qg ?_ ?_); focus (first | assumption | omega | (simp only [bz, fz, setC_own, setC_len, setC_getR, setC_load, setC_abs, setC_setAt, setC_snap, setC_keys, setC_ren]; omega))) | ((with_reducible first | refine qg0 ?_ ?_ | refine qg1 ?_ ?_ | refine qg2 ?_ ?_); focus (first | assumption | omega | (simp only [bz, fz, setC_own, setC_len, setC_getR, setC_load, setC_abs, setC_setAt, setC_snap, setC_keys, setC_ren]; omega))) | ((with_reducible first | refine g1_u8w ?_ ?_ | refine qg4 ?_ ?_); (focus ((repeat' (with_reducible apply And.intro)) <;> (first | assumption | omega | (simp only [bz, fz, setC_own, setC_len, setC_getR, setC_load, setC_abs, setC_setAt, setC_snap, setC_keys, setC_ren]; omega) | (simp (maxDischargeDepth := 8) only [bb, fz, setC_own, setC_len, setC_getR, setC_load, setC_abs, setC_setAt, setC_snap, setC_keys, setC_ren]; done)))); intro _)))
def nameCh (b : UInt8) : Bool := setG signs b.toNat
theorem trim_nil (g : Nat → Bool) (l : List UInt8) : (((l.take (l.length - trR g l)).drop (trL g (l.take (l.length - trR g l)))) == []) = l.all fun b => g b.toNat := by
  rw [Bool.eq_iff_iff]
  simp only [beq_iff_eq, List.all_eq_true]
  constructor
  · intro h b hb
    have hle := List.length_drop (i := trL g (l.take (l.length - trR g l))) (l := l.take (l.length - trR g l))
    rw [h] at hle
    have hk : trR g l ≤ l.length := by have := takeWhile_le (fun b : UInt8 => g b.toNat) l.reverse; simpa [trR] using this
    obtain ⟨j, hj, rfl⟩ := List.mem_iff_getElem.mp hb
    simp only [List.length_nil, List.length_take] at hle
    by_cases hj2 : j < l.length - trR g l
    · obtain ⟨h1, h2⟩ := takeWhile_lt (fun b : UInt8 => g b.toNat) (l.take (l.length - trR g l)) j (by show j < trL g _; omega)
      rw [List.getElem_take] at h2; exact h2
    · obtain ⟨h1, h2⟩ := takeWhile_lt (fun b : UInt8 => g b.toNat) l.reverse (l.length - 1 - j) (by show _ < trR g l; omega)
      rw [List.getElem_reverse] at h2
      rw [← h2]; congr 2; congr 1; omega
  · intro h
    have : trR g l = l.length := by
      unfold trR
      rw [takeWhile_all _ l.reverse (fun b hb => h b (List.mem_reverse.mp hb)), List.length_reverse]
    rw [this]; simp
theorem e62 (d : Nat) (l : List UInt8) (hl : l.length ≤ 549755813888) : evFun E (d+3) 62 [vs l, vs signs] [] = some (vs ((l.take (l.length - trR (setG signs) l)).drop (trL (setG signs) (l.take (l.length - trR (setG signs) l)))), []) := by
  refine evFun_body b62 ?_
  have hsl : signs.length = 37 := rfl
  have hs0 : (signs == []) = false := rfl
  by_cases h0 : l = []
  · subst h0
    (repeat' (first | simp (maxDischargeDepth := 8) only [go_sem, rr, reduceIte, reduceCtorEq, Nat.reduceEqDiff, Nat.reduceAdd, Nat.reduceMul, Nat.reduceSub, Nat.reduceBEq, Nat.reduceLeDiff, Int.reduceEq, Int.reduceLT, Int.reduceLE, Int.reduceGE, Int.reduceGT, Int.reduceBEq, Int.reduceBNe, Int.reduceToNat, Int.reduceNeg, Int.reduceSub, Int.reduceAdd, Int.reduceMul, hs0, Tryd.f62] | (with_reducible refine qg6 ?_ ?_; focus (first | (simp (maxDischargeDepth := 8) only [bb, kk, hs0]; done) | kernel_rfl)) | ((with_reducible first | refine qf4 ?_ ?_ | refine qf5 ?_ ?_ | refine qf6 ?_ ?_ | refine qf7 ?_ ?_ | refine qf8 ?_ ?_ | refine qf9 ?_ ?_ | refine qg ?_ ?_); focus (first | assumption | omega | (simp only [bz, hs0]; omega))) | ((with_reducible first | refine qg0 ?_ ?_ | refine qg1 ?_ ?_ | refine qg2 ?_ ?_); focus (first | assumption | omega | (simp only [bz, hs0]; omega))) | ((with_reducible first | refine g1_u8w ?_ ?_ | refine qg4 ?_ ?_); (focus ((repeat' (with_reducible apply And.intro)) <;> (first | assumption | omega | (simp only [bz, hs0]; omega) | (simp (maxDischargeDepth := 8) only [bb, hs0]; done)))); intro _)))
  · have h0' : (l == []) = false := beq_false_of_ne h0
    have hl2 : (l.take (l.length - trR (setG signs) l)).length ≤ 549755813888 := by rw [List.length_take]; omega
    (have fz := ga3 h0' hs0 hsl; repeat' (first | simp (maxDischargeDepth := 8) only [go_sem, rr, reduceIte, reduceCtorEq, Nat.reduceEqDiff, Nat.reduceAdd, Nat.reduceMul, Nat.reduceSub, Nat.reduceBEq, Nat.reduceLeDiff, Int.reduceEq, Int.reduceLT, Int.reduceLE, Int.reduceGE, Int.reduceGT, Int.reduceBEq, Int.reduceBNe, Int.reduceToNat, Int.reduceNeg, Int.reduceSub, Int.reduceAdd, Int.reduceMul, fz, zero256, e74, setC_own, setC_len, setC_getR, setC_load, setC_abs, setC_setAt, setC_snap, setC_ren, Tryd.f62] | (with_reducible refine qg6 ?_ ?_; focus (first | (simp (maxDischargeDepth := 8) only [bb, kk, fz, zero256, e74, setC_own, setC_len, setC_getR, setC_load, setC_abs, setC_setAt, setC_snap, setC_ren]; done) | kernel_rfl)) | ((with_reducible first | refine qf4 ?_ ?_ | refine qf5 ?_ ?_ | refine qf6 ?_ ?_ | refine qf7 ?_ ?_ | refine qf8 ?_ ?_ | refine qf9 ?_ ?_ | refine qg ?_ ?_); focus (first | assumption | omega | (simp only [bz, fz, zero256, e74, setC_own, setC_len, setC_getR, setC_load, setC_abs, setC_setAt, setC_snap, setC_ren]; omega))) | ((with_reducible first | refine qg0 ?_ ?_ | refine qg1 ?_ ?_ | refine qg2 ?_ ?_); focus (first | assumption | omega | (simp only [bz, fz, zero256, e74, setC_own, setC_len, setC_getR, setC_load, setC_abs, setC_setAt, setC_snap, setC_ren]; omega))) | ((with_reducible first | refine g1_u8w ?_ ?_ | refine qg4 ?_ ?_); (focus ((repeat' (with_reducible apply And.intro)) <;> (first | assumption | omega | (simp only [bz, fz, zero256, e74, setC_own, setC_len, setC_getR, setC_load, setC_abs, setC_setAt, setC_snap, setC_ren]; omega) | (simp (maxDischargeDepth := 8) only [bb, fz, zero256, e74, setC_own, setC_len, setC_getR, setC_load, setC_abs, setC_setAt, setC_snap, setC_ren]; done)))); intro _) | (with_reducible apply call_elim; focus ((with_reducible first | apply e76 | apply e75) <;> (first | assumption | omega | (simp only [bz, fz, zero256, e74, setC_own, setC_len, setC_getR, setC_load, setC_abs, setC_setAt, setC_snap, setC_ren]; omega) | (simp (maxDischargeDepth := 8) only [bb, fz, zero256, e74, setC_own, setC_len, setC_getR, setC_load, setC_abs, setC_setAt, setC_snap, setC_ren]; done))))))
    done
end Go.Proofs.YtghmmockgbiehaaDoor.VH.S
end

section
namespace Go.Proofs.YtghmmockgbiehaaDoor.VH.S
open Go.Proofs
set_option maxRecDepth 100000
set_option maxHeartbeats 8000000
set_option linter.unusedSimpArgs false

def nameOK (l : List UInt8) : Bool := decide (1 ≤ l.length) && decide (l.length ≤ 8) && l.all nameCh
theorem signs_eq : sB [97, 98, 99, 100, 101, 102, 103, 104, 105, 106, 107, 108, 109, 110, 111, 112, 113, 114, 115, 116, 117, 118, 119, 120, 121, 122, 48, 49, 50, 51, 52, 53, 54, 55, 56, 57, 45] = sB signs := rfl
theorem nameCh_nat : ∀ n, n < 256 → setG signs n = (decide (97 ≤ n ∧ n ≤ 122) || decide (48 ≤ n ∧ n ≤ 57) || decide (n = 45)) := by decide +kernel
theorem nameCh_iff (b : UInt8) : nameCh b = true ↔ (97 ≤ b.toNat ∧ b.toNat ≤ 122) ∨ (48 ≤ b.toNat ∧ b.toNat ≤ 57) ∨ b.toNat = 45 := by
  rw [nameCh, nameCh_nat _ (UInt8.toNat_lt b)]
  simp only [Bool.or_eq_true, decide_eq_true_eq, or_assoc]
theorem e48 (d : Nat) (l : List UInt8) (hl : l.length ≤ 549755813888) : evFun E (d+4) 48 [vs l] [] = some (vb (nameOK l), []) := by
  refine evFun_body b48 ?_
  have ht := trim_nil (setG signs) l
  have hall : (l.all fun b => setG signs b.toNat) = l.all nameCh := rfl
  by_cases h1 : 1 ≤ l.length ∧ l.length ≤ 8
  · have hr : nameOK l = l.all nameCh := by simp [nameOK, h1.1, h1.2]
    (have fz := ga3 ht hall hr; repeat' (first | simp (maxDischargeDepth := 8) only [go_sem, rr, reduceIte, reduceCtorEq, Nat.reduceEqDiff, Nat.reduceAdd, Nat.reduceMul, Nat.reduceSub, Nat.reduceBEq, Nat.reduceLeDiff, Int.reduceEq, Int.reduceLT, Int.reduceLE, Int.reduceGE, Int.reduceGT, Int.reduceBEq, Int.reduceBNe, Int.reduceToNat, Int.reduceNeg, Int.reduceSub, Int.reduceAdd, Int.reduceMul, fz, signs_eq, Tryd.f48] | (with_reducible refine qg6 ?_ ?_; focus (first | (simp (maxDischargeDepth := 8) only [bb, kk, fz, signs_eq]; done) | kernel_rfl)) | ((with_reducible first | refine qf4 ?_ ?_ | refine qf5 ?_ ?_ | refine qf6 ?_ ?_ | refine qf7 ?_ ?_ | refine qf8 ?_ ?_ | refine qf9 ?_ ?_ | refine qg ?_ ?_); focus (first | assumption | omega | (simp only [bz, fz, signs_eq]; omega))) | ((with_reducible first | refine qg0 ?_ ?_ | refine qg1 ?_ ?_ | refine qg2 ?_ ?_); focus (first | assumption | omega | (simp only [bz, fz, signs_eq]; omega))) | ((with_reducible first | refine g1_u8w ?_ ?_ | refine qg4 ?_ ?_); (focus ((repeat' (with_reducible apply And.intro)) <;> (first | assumption | omega | (simp only [bz, fz, signs_eq]; omega) | (simp (maxDischargeDepth := 8) only [bb, fz, signs_eq]; done)))); intro _) | (with_reducible apply call_elim; focus ((with_reducible first | apply e49 | apply e62) <;> (first | assumption | omega | (simp only [bz, fz, signs_eq]; omega) | (simp (maxDischargeDepth := 8) only [bb, fz, signs_eq]; done))))))
  · have hr : nameOK l = false := by
      simp only [nameOK, Bool.and_eq_false_iff, decide_eq_false_iff_not]
      left; omega
    (repeat' (first | simp (maxDischargeDepth := 8) only [go_sem, rr, reduceIte, reduceCtorEq, Nat.reduceEqDiff, Nat.reduceAdd, Nat.reduceMul, Nat.reduceSub, Nat.reduceBEq, Nat.reduceLeDiff, Int.reduceEq, Int.reduceLT, Int.reduceLE, Int.reduceGE, Int.reduceGT, Int.reduceBEq, Int.reduceBNe, Int.reduceToNat, Int.reduceNeg, Int.reduceSub, Int.reduceAdd, Int.reduceMul, signs_eq, hr, Tryd.f48] | (with_reducible refine qg6 ?_ ?_; focus (first | (simp (maxDischargeDepth := 8) only [bb, kk, signs_eq, hr]; done) | kernel_rfl)) | ((with_reducible first | refine qf4 ?_ ?_ | refine qf5 ?_ ?_ | refine qf6 ?_ ?_ | refine qf7 ?_ ?_ | refine qf8 ?_ ?_ | refine qf9 ?_ ?_ | refine qg ?_ ?_); focus (first | assumption | omega | (simp only [bz, signs_eq, hr]; omega))) | ((with_reducible first | refine qg0 ?_ ?_ | refine qg1 ?_ ?_ | refine qg2 ?_ ?_); focus (first | assumption | omega | (simp only [bz, signs_eq, hr]; omega))) | ((with_reducible first | refine g1_u8w ?_ ?_ | refine qg4 ?_ ?_); (focus ((repeat' (with_reducible apply And.intro)) <;> (first | assumption | omega | (simp only [bz, signs_eq, hr]; omega) | (simp (maxDischargeDepth := 8) only [bb, signs_eq, hr]; done)))); intro _) | (with_reducible apply call_elim; focus ((with_reducible first | apply e49) <;> (first | assumption | omega | (simp only [bz, signs_eq, hr]; omega) | (simp (maxDischargeDepth := 8) only [bb, signs_eq, hr]; done))))))
    done
theorem e41 (d : Nat) (l : List UInt8) (hl : l.length ≤ 549755813888) : evFun E (d+2) 41 [vs l] [] = some (vb (nameOK l), []) := by
  refine evFun_body b41 ?_
  (repeat' (first | simp (maxDischargeDepth := 8) only [go_sem, rr, reduceIte, reduceCtorEq, Nat.reduceEqDiff, Nat.reduceAdd, Nat.reduceMul, Nat.reduceSub, Nat.reduceBEq, Nat.reduceLeDiff, Int.reduceEq, Int.reduceLT, Int.reduceLE, Int.reduceGE, Int.reduceGT, Int.reduceBEq, Int.reduceBNe, Int.reduceToNat, Int.reduceNeg, Int.reduceSub, Int.reduceAdd, Int.reduceMul, Tryd.f41] | (with_reducible refine qg6 ?_ ?_; focus (first | (simp (maxDischargeDepth := 8) only [bb, kk]; done) | kernel_rfl)) | ((with_reducible first | refine qf4 ?_ ?_ | refine qf5 ?_ ?_ | refine qf6 ?_ ?_ | refine qf7 ?_ ?_ | refine qf8 ?_ ?_ | refine qf9 ?_ ?_ | refine qg ?_ ?_); focus (first | assumption | omega | (simp only [bz]; omega))) | ((with_reducible first | refine qg0 ?_ ?_ | refine qg1 ?_ ?_ | refine qg2 ?_ ?_); focus (first | assumption | omega | (simp only [bz]; omega))) | ((with_reducible first | refine g1_u8w ?_ ?_ | refine qg4 ?_ ?_); (focus ((repeat' (with_reducible apply And.intro)) <;> (first | assumption | omega | (simp only [bz]; omega) | (simp (maxDischargeDepth := 8) only [bb]; done)))); intro _)))
  refine loop_inv (fun i => ∀ j (h : j < l.length), j < i → nameCh l[j] = true) (fun i => {T := tp [(0, vs l), (3, vi i)], H := hp [], nx := 0}) l.length ?_ (fun j _ h => by omega) (lt_LF (by omega)) (fun i hi hI Kn hK => ?_) (fun hI Kn => ?_)
  · simp only [vv, ff, norm, Array.toList, List.map, Option.isSome_none, bne_self_eq_false, reduceIte, reduceCtorEq, Nat.reduceEqDiff, Nat.reduceAdd, Nat.reduceMul, Nat.reduceSub, Nat.reduceBEq, Nat.reduceLeDiff, Int.reduceEq, Int.reduceLT, Int.reduceLE, Int.reduceGE, Int.reduceGT, Int.reduceBEq, Int.reduceBNe, Int.reduceToNat, Int.reduceNeg, Int.reduceSub, Int.reduceAdd, Int.reduceMul, finish, qe8, resOf, resa, qe9, qf, qf0, keep, qf1, qf2, qf3, qe6, qe7, Int.natCast_zero]
  · by_cases hc : nameCh (bA l i) = true
    · have hc' := (nameCh_iff _).mp hc
      have next : ∀ j (h : j < l.length), j < i + 1 → nameCh l[j] = true := fun j h hj => by
        by_cases e : j = i
        · subst e; rw [← bA_get h]; exact hc
        · exact hI j h (by omega)
      rcases hc' with hc' | hc' | hc'
      · (repeat' (first | simp (maxDischargeDepth := 8) only [go_sem, rr, reduceIte, reduceCtorEq, Nat.reduceEqDiff, Nat.reduceAdd, Nat.reduceMul, Nat.reduceSub, Nat.reduceBEq, Nat.reduceLeDiff, Int.reduceEq, Int.reduceLT, Int.reduceLE, Int.reduceGE, Int.reduceGT, Int.reduceBEq, Int.reduceBNe, Int.reduceToNat, Int.reduceNeg, Int.reduceSub, Int.reduceAdd, Int.reduceMul] | (with_reducible refine qg6 ?_ ?_; focus (first | (simp (maxDischargeDepth := 8) only [bb, kk]; done) | kernel_rfl)) | ((with_reducible first | refine qf4 ?_ ?_ | refine qf5 ?_ ?_ | refine qf6 ?_ ?_ | refine qf7 ?_ ?_ | refine qf8 ?_ ?_ | refine qf9 ?_ ?_ | refine qg ?_ ?_); focus (first | assumption | omega | (simp only [bz]; omega))) | ((with_reducible first | refine qg0 ?_ ?_ | refine qg1 ?_ ?_ | refine qg2 ?_ ?_); focus (first | assumption | omega | (simp only [bz]; omega))) | ((with_reducible first | refine g1_u8w ?_ ?_ | refine qg4 ?_ ?_); (focus ((repeat' (with_reducible apply And.intro)) <;> (first | assumption | omega | (simp only [bz]; omega) | (simp (maxDischargeDepth := 8) only [bb]; done)))); intro _) | (with_reducible apply call_elim; focus ((with_reducible first | apply e47) <;> (first | assumption | omega | (simp only [bz]; omega) | (simp (maxDischargeDepth := 8) only [bb]; done))))))
        refine hK next _ ?_
        simp only [vv, ff, norm, Array.toList, List.map, Option.isSome_none, bne_self_eq_false, reduceIte, reduceCtorEq, Nat.reduceEqDiff, Nat.reduceAdd, Nat.reduceMul, Nat.reduceSub, Nat.reduceBEq, Nat.reduceLeDiff, Int.reduceEq, Int.reduceLT, Int.reduceLE, Int.reduceGE, Int.reduceGT, Int.reduceBEq, Int.reduceBNe, Int.reduceToNat, Int.reduceNeg, Int.reduceSub, Int.reduceAdd, Int.reduceMul, finish, qe8, resOf, resa, qe9, qf, qf0, keep, qf1, qf2, qf3, qe6, qe7, Int.natCast_add, cst1]
      · (repeat' (first | simp (maxDischargeDepth := 8) only [go_sem, rr, reduceIte, reduceCtorEq, Nat.reduceEqDiff, Nat.reduceAdd, Nat.reduceMul, Nat.reduceSub, Nat.reduceBEq, Nat.reduceLeDiff, Int.reduceEq, Int.reduceLT, Int.reduceLE, Int.reduceGE, Int.reduceGT, Int.reduceBEq, Int.reduceBNe, Int.reduceToNat, Int.reduceNeg, Int.reduceSub, Int.reduceAdd, Int.reduceMul] | (with_reducible refine qg6 ?_ ?_; focus (first | (simp (maxDischargeDepth := 8) only [bb, kk]; done) | kernel_rfl)) | ((with_reducible first | refine qf4 ?_ ?_ | refine qf5 ?_ ?_ | refine qf6 ?_ ?_ | refine qf7 ?_ ?_ | refine qf8 ?_ ?_ | refine qf9 ?_ ?_ | refine qg ?_ ?_); focus (first | assumption | omega | (simp only [bz]; omega))) | ((with_reducible first | refine qg0 ?_ ?_ | refine qg1 ?_ ?_ | refine qg2 ?_ ?_); focus (first | assumption | omega | (simp only [bz]; omega))) | ((with_reducible first | refine g1_u8w ?_ ?_ | refine qg4 ?_ ?_); (focus ((repeat' (with_reducible apply And.intro)) <;> (first | assumption | omega | (simp only [bz]; omega) | (simp (maxDischargeDepth := 8) only [bb]; done)))); intro _) | (with_reducible apply call_elim; focus ((with_reducible first | apply e47) <;> (first | assumption | omega | (simp only [bz]; omega) | (simp (maxDischargeDepth := 8) only [bb]; done))))))
        refine hK next _ ?_
        simp only [vv, ff, norm, Array.toList, List.map, Option.isSome_none, bne_self_eq_false, reduceIte, reduceCtorEq, Nat.reduceEqDiff, Nat.reduceAdd, Nat.reduceMul, Nat.reduceSub, Nat.reduceBEq, Nat.reduceLeDiff, Int.reduceEq, Int.reduceLT, Int.reduceLE, Int.reduceGE, Int.reduceGT, Int.reduceBEq, Int.reduceBNe, Int.reduceToNat, Int.reduceNeg, Int.reduceSub, Int.reduceAdd, Int.reduceMul, finish, qe8, resOf, resa, qe9, qf, qf0, keep, qf1, qf2, qf3, qe6, qe7, Int.natCast_add, cst1]
      · (repeat' (first | simp (maxDischargeDepth := 8) only [go_sem, rr, reduceIte, reduceCtorEq, Nat.reduceEqDiff, Nat.reduceAdd, Nat.reduceMul, Nat.reduceSub, Nat.reduceBEq, Nat.reduceLeDiff, Int.reduceEq, Int.reduceLT, Int.reduceLE, Int.reduceGE, Int.reduceGT, Int.reduceBEq, Int.reduceBNe, Int.reduceToNat, Int.reduceNeg, Int.reduceSub, Int.reduceAdd, Int.reduceMul] | (with_reducible refine qg6 ?_ ?_; focus (first | (simp (maxDischargeDepth := 8) only [bb, kk]; done) | kernel_rfl)) | ((with_reducible first | refine qf4 ?_ ?_ | refine qf5 ?_ ?_ | refine qf6 ?_ ?_ | refine qf7 ?_ ?_ | refine qf8 ?_ ?_ | refine qf9 ?_ ?_ | refine qg ?_ ?_); focus (first | assumption | omega | (simp only [bz]; omega))) | ((with_reducible first | refine qg0 ?_ ?_ | refine qg1 ?_ ?_ | refine qg2 ?_ ?_); focus (first | assumption | omega | (simp only [bz]; omega))) | ((with_reducible first | refine g1_u8w ?_ ?_ | refine qg4 ?_ ?_); (focus ((repeat' (with_reducible apply And.intro)) <;> (first | assumption | omega | (simp only [bz]; omega) | (simp (maxDischargeDepth := 8) only [bb]; done)))); intro _) | (with_reducible apply call_elim; focus ((with_reducible first | apply e47) <;> (first | assumption | omega | (simp only [bz]; omega) | (simp (maxDischargeDepth := 8) only [bb]; done))))))
        refine hK next _ ?_
        simp only [vv, ff, norm, Array.toList, List.map, Option.isSome_none, bne_self_eq_false, reduceIte, reduceCtorEq, Nat.reduceEqDiff, Nat.reduceAdd, Nat.reduceMul, Nat.reduceSub, Nat.reduceBEq, Nat.reduceLeDiff, Int.reduceEq, Int.reduceLT, Int.reduceLE, Int.reduceGE, Int.reduceGT, Int.reduceBEq, Int.reduceBNe, Int.reduceToNat, Int.reduceNeg, Int.reduceSub, Int.reduceAdd, Int.reduceMul, finish, qe8, resOf, resa, qe9, qf, qf0, keep, qf1, qf2, qf3, qe6, qe7, Int.natCast_add, cst1]
    · have hc' := mt (nameCh_iff _).mpr hc
      have hr : nameOK l = false := by
        simp only [nameOK, Bool.and_eq_false_iff, List.all_eq_false]
        exact .inr ⟨l[i], List.getElem_mem _, by rw [← bA_get hi]; exact hc⟩
      have hc1 : ¬ (97 ≤ (bA l i).toNat ∧ (bA l i).toNat ≤ 122) := fun h => hc' (.inl h)
      have hc2 : ¬ (48 ≤ (bA l i).toNat ∧ (bA l i).toNat ≤ 57) := fun h => hc' (.inr (.inl h))
      have hc3 : ¬ (bA l i).toNat = 45 := fun h => hc' (.inr (.inr h))
      (repeat' (first | simp (maxDischargeDepth := 8) only [go_sem, rr, reduceIte, reduceCtorEq, Nat.reduceEqDiff, Nat.reduceAdd, Nat.reduceMul, Nat.reduceSub, Nat.reduceBEq, Nat.reduceLeDiff, Int.reduceEq, Int.reduceLT, Int.reduceLE, Int.reduceGE, Int.reduceGT, Int.reduceBEq, Int.reduceBNe, Int.reduceToNat, Int.reduceNeg, Int.reduceSub, Int.reduceAdd, Int.reduceMul, hr] | (with_reducible refine qg6 ?_ ?_; focus (first | (simp (maxDischargeDepth := 8) only [bb, kk, hr]; done) | kernel_rfl)) | ((with_reducible first | refine qf4 ?_ ?_ | refine qf5 ?_ ?_ | refine qf6 ?_ ?_ | refine qf7 ?_ ?_ | refine qf8 ?_ ?_ | refine qf9 ?_ ?_ | refine qg ?_ ?_); focus (first | assumption | omega | (simp only [bz, hr]; omega))) | ((with_reducible first | refine qg0 ?_ ?_ | refine qg1 ?_ ?_ | refine qg2 ?_ ?_); focus (first | assumption | omega | (simp only [bz, hr]; omega))) | ((with_reducible first | refine g1_u8w ?_ ?_ | refine qg4 ?_ ?_); (focus ((repeat' (with_reducible apply And.intro)) <;> (first | assumption | omega | (simp only [bz, hr]; omega) | (simp (maxDischargeDepth := 8) only [bb, hr]; done)))); intro _) | (with_reducible apply call_elim; focus ((with_reducible first | apply e47) <;> (first | assumption | omega | (simp only [bz, hr]; omega) | (simp (maxDischargeDepth := 8) only [bb, hr]; done))))))
  · have hr : nameOK l = (decide (1 ≤ l.length) && decide (l.length ≤ 8)) := by
      have : l.all nameCh = true := List.all_eq_true.mpr fun b hb => by
        obtain ⟨j, hj, rfl⟩ := List.mem_iff_getElem.mp hb
        exact hI j hj hj
      simp [nameOK, this]
    have hr2 : (decide ((l.length : Int) ≥ 1) && decide ((l.length : Int) ≤ 8)) = nameOK l := by
      rw [hr, Bool.eq_iff_iff]; simp; omega
    (repeat' (first | simp (maxDischargeDepth := 8) only [go_sem, rr, reduceIte, reduceCtorEq, Nat.reduceEqDiff, Nat.reduceAdd, Nat.reduceMul, Nat.reduceSub, Nat.reduceBEq, Nat.reduceLeDiff, Int.reduceEq, Int.reduceLT, Int.reduceLE, Int.reduceGE, Int.reduceGT, Int.reduceBEq, Int.reduceBNe, Int.reduceToNat, Int.reduceNeg, Int.reduceSub, Int.reduceAdd, Int.reduceMul, hr2] | (with_reducible refine qg6 ?_ ?_; focus (first | (simp (maxDischargeDepth := 8) only [bb, kk, hr2]; done) | kernel_rfl)) | ((with_reducible first | refine qf4 ?_ ?_ | refine qf5 ?_ ?_ | refine qf6 ?_ ?_ | refine qf7 ?_ ?_ | refine qf8 ?_ ?_ | refine qf9 ?_ ?_ | refine qg ?_ ?_); focus (first | assumption | omega | (simp only [bz, hr2]; omega))) | ((with_reducible first | refine qg0 ?_ ?_ | refine qg1 ?_ ?_ | refine qg2 ?_ ?_); focus (first | assumption | omega | (simp only [bz, hr2]; omega))) | ((with_reducible first | refine g1_u8w ?_ ?_ | refine qg4 ?_ ?_); (focus ((repeat' (with_reducible apply And.intro)) <;> (first | assumption | omega | (simp only [bz, hr2]; omega) | (simp (maxDischargeDepth := 8) only [bb, hr2]; done)))); intro _) | (with_reducible apply call_elim; focus ((with_reducible first | apply e47) <;> (first | assumption | omega | (simp only [bz, hr2]; omega) | (simp (maxDischargeDepth := 8) only [bb, hr2]; done))))))
end Go.Proofs.YtghmmockgbiehaaDoor.VH.S
end

section
namespace Go.Proofs.YtghmmockgbiehaaDoor.VH.S
open Go.Proofs
set_option maxRecDepth 100000
set_option maxHeartbeats 8000000
set_option linter.unusedSimpArgs false

end Go.Proofs.YtghmmockgbiehaaDoor.VH.S
end

section
namespace Go.Proofs.YtghmmockgbiehaaDoor.VH.S
open Go.Proofs
set_option maxRecDepth 100000
set_option maxHeartbeats 8000000
set_option linter.unusedSimpArgs false

/- Entries of a catalog. -/
structure Ent where
  nm : List UInt8
  v : Int
  s : Int
  r : Int
  deriving DecidableEq
abbrev encE (e : Ent) : List AV := [vs e.nm, vi e.v, vi e.s, vi e.r]
def e0 : Ent := ⟨[], 0, 0, 0⟩
def eA (L : List Ent) (i : Nat) : Ent := L.getD i e0
theorem eA_get {L : List Ent} {i : Nat} (h : i < L.length) : eA L i = L[i] := by
  rw [eA, List.getD_eq_getElem?_getD, List.getElem?_eq_getElem h]; rfl
theorem encE_len (e : Ent) : (encE e).length = 4 := rfl
theorem fE_len (L : List Ent) : (flat encE L).length = L.length * 4 := flat_len encE_len L
theorem fE_getR (L : List Ent) {i : Nat} (h : i < L.length) : getR (flat encE L) (i * 4) 4 = some (encE (eA L i)) := by rw [eA_get h]; exact flt_getR encE_len L h
theorem fE_get0 (L : List Ent) {i : Nat} (h : i < L.length) : g1 (flat encE L) (i * 4) = some (vs (eA L i).nm) := by
  have := flt_get encE_len L i h 0 (by decide); rw [eA_get h]; simpa [g1] using this
theorem noSnapL_encE : ∀ L : List Ent, qf (flat encE L) = true
  | [] => rfl
  | e :: L => by
    simp only [flat, List.cons_append, List.nil_append, qf, qe9, noSnapL_encE L]; rfl
theorem anyOwn_encE : ∀ L : List Ent, (flat encE L).any qb8 = false
  | [] => rfl
  | e :: L => by simp only [flat, List.cons_append, List.nil_append, List.any_cons, qb8, anyOwn_encE L]; rfl
theorem anySl_encE : ∀ L : List Ent, (flat encE L).any isSl = false
  | [] => rfl
  | e :: L => by simp only [flat, List.cons_append, List.nil_append, List.any_cons, isSl, anySl_encE L]; rfl
def entOK (e : Ent) : Bool := nameOK e.nm && (decide (1 ≤ e.v) && decide (e.v ≤ 1000000)) && (decide (0 ≤ e.s) && decide (e.s ≤ 120)) && (decide (0 ≤ e.r) && decide (e.r ≤ 1152921504606846975))
theorem e50b (d : Nat) (x : Int) : evFun E (d+2) 50 [vi x] [] = some (vb (decide (0 ≤ x) && decide (x ≤ 1152921504606846975)), []) := e50 d x
theorem e36 (d : Nat) (e : Ent) (hl : e.nm.length ≤ 549755813888) : evFun E (d+5) 36 [.agg [vs e.nm, vi e.v, vi e.s, vi e.r]] [] = some (vb (entOK e), []) := by
  refine evFun_body b36 ?_
  cases h1 : nameOK e.nm with
  | false =>
    have hr : entOK e = false := by simp [entOK, h1]
    (have fz := ga2 h1 hr; repeat' (first | simp (maxDischargeDepth := 8) only [go_sem, rr, reduceIte, reduceCtorEq, Nat.reduceEqDiff, Nat.reduceAdd, Nat.reduceMul, Nat.reduceSub, Nat.reduceBEq, Nat.reduceLeDiff, Int.reduceEq, Int.reduceLT, Int.reduceLE, Int.reduceGE, Int.reduceGT, Int.reduceBEq, Int.reduceBNe, Int.reduceToNat, Int.reduceNeg, Int.reduceSub, Int.reduceAdd, Int.reduceMul, fz, Tryd.f36] | (with_reducible refine qg6 ?_ ?_; focus (first | (simp (maxDischargeDepth := 8) only [bb, kk, fz]; done) | kernel_rfl)) | ((with_reducible first | refine qf4 ?_ ?_ | refine qf5 ?_ ?_ | refine qf6 ?_ ?_ | refine qf7 ?_ ?_ | refine qf8 ?_ ?_ | refine qf9 ?_ ?_ | refine qg ?_ ?_); focus (first | assumption | omega | (simp only [bz, fz]; omega))) | ((with_reducible first | refine qg0 ?_ ?_ | refine qg1 ?_ ?_ | refine qg2 ?_ ?_); focus (first | assumption | omega | (simp only [bz, fz]; omega))) | ((with_reducible first | refine g1_u8w ?_ ?_ | refine qg4 ?_ ?_); (focus ((repeat' (with_reducible apply And.intro)) <;> (first | assumption | omega | (simp only [bz, fz]; omega) | (simp (maxDischargeDepth := 8) only [bb, fz]; done)))); intro _) | (with_reducible apply call_elim; focus ((with_reducible first | apply e48) <;> (first | assumption | omega | (simp only [bz, fz]; omega) | (simp (maxDischargeDepth := 8) only [bb, fz]; done))))))
  | true =>
    by_cases h2 : 1 ≤ e.v ∧ e.v ≤ 1000000
    · by_cases h3 : 0 ≤ e.s ∧ e.s ≤ 120
      · have hr : entOK e = (decide (0 ≤ e.r) && decide (e.r ≤ 1152921504606846975)) := by simp [entOK, h1, h2, h3]
        (have fz := ga2 h1 hr; repeat' (first | simp (maxDischargeDepth := 8) only [go_sem, rr, reduceIte, reduceCtorEq, Nat.reduceEqDiff, Nat.reduceAdd, Nat.reduceMul, Nat.reduceSub, Nat.reduceBEq, Nat.reduceLeDiff, Int.reduceEq, Int.reduceLT, Int.reduceLE, Int.reduceGE, Int.reduceGT, Int.reduceBEq, Int.reduceBNe, Int.reduceToNat, Int.reduceNeg, Int.reduceSub, Int.reduceAdd, Int.reduceMul, fz, Tryd.f36] | (with_reducible refine qg6 ?_ ?_; focus (first | (simp (maxDischargeDepth := 8) only [bb, kk, fz]; done) | kernel_rfl)) | ((with_reducible first | refine qf4 ?_ ?_ | refine qf5 ?_ ?_ | refine qf6 ?_ ?_ | refine qf7 ?_ ?_ | refine qf8 ?_ ?_ | refine qf9 ?_ ?_ | refine qg ?_ ?_); focus (first | assumption | omega | (simp only [bz, fz]; omega))) | ((with_reducible first | refine qg0 ?_ ?_ | refine qg1 ?_ ?_ | refine qg2 ?_ ?_); focus (first | assumption | omega | (simp only [bz, fz]; omega))) | ((with_reducible first | refine g1_u8w ?_ ?_ | refine qg4 ?_ ?_); (focus ((repeat' (with_reducible apply And.intro)) <;> (first | assumption | omega | (simp only [bz, fz]; omega) | (simp (maxDischargeDepth := 8) only [bb, fz]; done)))); intro _) | (with_reducible apply call_elim; focus ((with_reducible first | apply e48 | apply e49 | apply e50b) <;> (first | assumption | omega | (simp only [bz, fz]; omega) | (simp (maxDischargeDepth := 8) only [bb, fz]; done))))))
      · have hr : entOK e = false := by
          have : (decide (0 ≤ e.s) && decide (e.s ≤ 120)) = false := by simp; omega
          simp [entOK, this]
        (have fz := ga2 h1 hr; repeat' (first | simp (maxDischargeDepth := 8) only [go_sem, rr, reduceIte, reduceCtorEq, Nat.reduceEqDiff, Nat.reduceAdd, Nat.reduceMul, Nat.reduceSub, Nat.reduceBEq, Nat.reduceLeDiff, Int.reduceEq, Int.reduceLT, Int.reduceLE, Int.reduceGE, Int.reduceGT, Int.reduceBEq, Int.reduceBNe, Int.reduceToNat, Int.reduceNeg, Int.reduceSub, Int.reduceAdd, Int.reduceMul, fz, Tryd.f36] | (with_reducible refine qg6 ?_ ?_; focus (first | (simp (maxDischargeDepth := 8) only [bb, kk, fz]; done) | kernel_rfl)) | ((with_reducible first | refine qf4 ?_ ?_ | refine qf5 ?_ ?_ | refine qf6 ?_ ?_ | refine qf7 ?_ ?_ | refine qf8 ?_ ?_ | refine qf9 ?_ ?_ | refine qg ?_ ?_); focus (first | assumption | omega | (simp only [bz, fz]; omega))) | ((with_reducible first | refine qg0 ?_ ?_ | refine qg1 ?_ ?_ | refine qg2 ?_ ?_); focus (first | assumption | omega | (simp only [bz, fz]; omega))) | ((with_reducible first | refine g1_u8w ?_ ?_ | refine qg4 ?_ ?_); (focus ((repeat' (with_reducible apply And.intro)) <;> (first | assumption | omega | (simp only [bz, fz]; omega) | (simp (maxDischargeDepth := 8) only [bb, fz]; done)))); intro _) | (with_reducible apply call_elim; focus ((with_reducible first | apply e48 | apply e49) <;> (first | assumption | omega | (simp only [bz, fz]; omega) | (simp (maxDischargeDepth := 8) only [bb, fz]; done))))))
    · have hr : entOK e = false := by
        have : (decide (1 ≤ e.v) && decide (e.v ≤ 1000000)) = false := by simp; omega
        simp [entOK, this]
      (have fz := ga2 h1 hr; repeat' (first | simp (maxDischargeDepth := 8) only [go_sem, rr, reduceIte, reduceCtorEq, Nat.reduceEqDiff, Nat.reduceAdd, Nat.reduceMul, Nat.reduceSub, Nat.reduceBEq, Nat.reduceLeDiff, Int.reduceEq, Int.reduceLT, Int.reduceLE, Int.reduceGE, Int.reduceGT, Int.reduceBEq, Int.reduceBNe, Int.reduceToNat, Int.reduceNeg, Int.reduceSub, Int.reduceAdd, Int.reduceMul, fz, Tryd.f36] | (with_reducible refine qg6 ?_ ?_; focus (first | (simp (maxDischargeDepth := 8) only [bb, kk, fz]; done) | kernel_rfl)) | ((with_reducible first | refine qf4 ?_ ?_ | refine qf5 ?_ ?_ | refine qf6 ?_ ?_ | refine qf7 ?_ ?_ | refine qf8 ?_ ?_ | refine qf9 ?_ ?_ | refine qg ?_ ?_); focus (first | assumption | omega | (simp only [bz, fz]; omega))) | ((with_reducible first | refine qg0 ?_ ?_ | refine qg1 ?_ ?_ | refine qg2 ?_ ?_); focus (first | assumption | omega | (simp only [bz, fz]; omega))) | ((with_reducible first | refine g1_u8w ?_ ?_ | refine qg4 ?_ ?_); (focus ((repeat' (with_reducible apply And.intro)) <;> (first | assumption | omega | (simp only [bz, fz]; omega) | (simp (maxDischargeDepth := 8) only [bb, fz]; done)))); intro _) | (with_reducible apply call_elim; focus ((with_reducible first | apply e48 | apply e49) <;> (first | assumption | omega | (simp only [bz, fz]; omega) | (simp (maxDischargeDepth := 8) only [bb, fz]; done))))))
theorem e32 (d : Nat) (e : Ent) (hl : e.nm.length ≤ 549755813888) : evFun E (d+3) 32 [.agg [vs e.nm, vi e.v, vi e.s, vi e.r]] [] = some (vb (entOK e), []) := by
  refine evFun_body b32 ?_
  cases h1 : nameOK e.nm with
  | false =>
    have hr : entOK e = false := by simp [entOK, h1]
    (have fz := ga2 h1 hr; repeat' (first | simp (maxDischargeDepth := 8) only [go_sem, rr, reduceIte, reduceCtorEq, Nat.reduceEqDiff, Nat.reduceAdd, Nat.reduceMul, Nat.reduceSub, Nat.reduceBEq, Nat.reduceLeDiff, Int.reduceEq, Int.reduceLT, Int.reduceLE, Int.reduceGE, Int.reduceGT, Int.reduceBEq, Int.reduceBNe, Int.reduceToNat, Int.reduceNeg, Int.reduceSub, Int.reduceAdd, Int.reduceMul, fz, Tryd.f32] | (with_reducible refine qg6 ?_ ?_; focus (first | (simp (maxDischargeDepth := 8) only [bb, kk, fz]; done) | kernel_rfl)) | ((with_reducible first | refine qf4 ?_ ?_ | refine qf5 ?_ ?_ | refine qf6 ?_ ?_ | refine qf7 ?_ ?_ | refine qf8 ?_ ?_ | refine qf9 ?_ ?_ | refine qg ?_ ?_); focus (first | assumption | omega | (simp only [bz, fz]; omega))) | ((with_reducible first | refine qg0 ?_ ?_ | refine qg1 ?_ ?_ | refine qg2 ?_ ?_); focus (first | assumption | omega | (simp only [bz, fz]; omega))) | ((with_reducible first | refine g1_u8w ?_ ?_ | refine qg4 ?_ ?_); (focus ((repeat' (with_reducible apply And.intro)) <;> (first | assumption | omega | (simp only [bz, fz]; omega) | (simp (maxDischargeDepth := 8) only [bb, fz]; done)))); intro _) | (with_reducible apply call_elim; focus ((with_reducible first | apply e41) <;> (first | assumption | omega | (simp only [bz, fz]; omega) | (simp (maxDischargeDepth := 8) only [bb, fz]; done))))))
  | true =>
    by_cases h2 : 1 ≤ e.v ∧ e.v ≤ 1000000
    · by_cases h3 : 0 ≤ e.s ∧ e.s ≤ 120
      · have hr : entOK e = (decide (e.r ≥ 0) && decide (e.r ≤ 1152921504606846975)) := by simp [entOK, h1, h2, h3]
        (have fz := ga2 h1 hr; repeat' (first | simp (maxDischargeDepth := 8) only [go_sem, rr, reduceIte, reduceCtorEq, Nat.reduceEqDiff, Nat.reduceAdd, Nat.reduceMul, Nat.reduceSub, Nat.reduceBEq, Nat.reduceLeDiff, Int.reduceEq, Int.reduceLT, Int.reduceLE, Int.reduceGE, Int.reduceGT, Int.reduceBEq, Int.reduceBNe, Int.reduceToNat, Int.reduceNeg, Int.reduceSub, Int.reduceAdd, Int.reduceMul, fz, Tryd.f32] | (with_reducible refine qg6 ?_ ?_; focus (first | (simp (maxDischargeDepth := 8) only [bb, kk, fz]; done) | kernel_rfl)) | ((with_reducible first | refine qf4 ?_ ?_ | refine qf5 ?_ ?_ | refine qf6 ?_ ?_ | refine qf7 ?_ ?_ | refine qf8 ?_ ?_ | refine qf9 ?_ ?_ | refine qg ?_ ?_); focus (first | assumption | omega | (simp only [bz, fz]; omega))) | ((with_reducible first | refine qg0 ?_ ?_ | refine qg1 ?_ ?_ | refine qg2 ?_ ?_); focus (first | assumption | omega | (simp only [bz, fz]; omega))) | ((with_reducible first | refine g1_u8w ?_ ?_ | refine qg4 ?_ ?_); (focus ((repeat' (with_reducible apply And.intro)) <;> (first | assumption | omega | (simp only [bz, fz]; omega) | (simp (maxDischargeDepth := 8) only [bb, fz]; done)))); intro _) | (with_reducible apply call_elim; focus ((with_reducible first | apply e41 | apply e47) <;> (first | assumption | omega | (simp only [bz, fz]; omega) | (simp (maxDischargeDepth := 8) only [bb, fz]; done))))))
      · have hr : entOK e = false := by
          have : (decide (0 ≤ e.s) && decide (e.s ≤ 120)) = false := by simp; omega
          simp [entOK, this]
        (have fz := ga2 h1 hr; repeat' (first | simp (maxDischargeDepth := 8) only [go_sem, rr, reduceIte, reduceCtorEq, Nat.reduceEqDiff, Nat.reduceAdd, Nat.reduceMul, Nat.reduceSub, Nat.reduceBEq, Nat.reduceLeDiff, Int.reduceEq, Int.reduceLT, Int.reduceLE, Int.reduceGE, Int.reduceGT, Int.reduceBEq, Int.reduceBNe, Int.reduceToNat, Int.reduceNeg, Int.reduceSub, Int.reduceAdd, Int.reduceMul, fz, Tryd.f32] | (with_reducible refine qg6 ?_ ?_; focus (first | (simp (maxDischargeDepth := 8) only [bb, kk, fz]; done) | kernel_rfl)) | ((with_reducible first | refine qf4 ?_ ?_ | refine qf5 ?_ ?_ | refine qf6 ?_ ?_ | refine qf7 ?_ ?_ | refine qf8 ?_ ?_ | refine qf9 ?_ ?_ | refine qg ?_ ?_); focus (first | assumption | omega | (simp only [bz, fz]; omega))) | ((with_reducible first | refine qg0 ?_ ?_ | refine qg1 ?_ ?_ | refine qg2 ?_ ?_); focus (first | assumption | omega | (simp only [bz, fz]; omega))) | ((with_reducible first | refine g1_u8w ?_ ?_ | refine qg4 ?_ ?_); (focus ((repeat' (with_reducible apply And.intro)) <;> (first | assumption | omega | (simp only [bz, fz]; omega) | (simp (maxDischargeDepth := 8) only [bb, fz]; done)))); intro _) | (with_reducible apply call_elim; focus ((with_reducible first | apply e41 | apply e47) <;> (first | assumption | omega | (simp only [bz, fz]; omega) | (simp (maxDischargeDepth := 8) only [bb, fz]; done))))))
    · have hr : entOK e = false := by
        have : (decide (1 ≤ e.v) && decide (e.v ≤ 1000000)) = false := by simp; omega
        simp [entOK, this]
      (have fz := ga2 h1 hr; repeat' (first | simp (maxDischargeDepth := 8) only [go_sem, rr, reduceIte, reduceCtorEq, Nat.reduceEqDiff, Nat.reduceAdd, Nat.reduceMul, Nat.reduceSub, Nat.reduceBEq, Nat.reduceLeDiff, Int.reduceEq, Int.reduceLT, Int.reduceLE, Int.reduceGE, Int.reduceGT, Int.reduceBEq, Int.reduceBNe, Int.reduceToNat, Int.reduceNeg, Int.reduceSub, Int.reduceAdd, Int.reduceMul, fz, Tryd.f32] | (with_reducible refine qg6 ?_ ?_; focus (first | (simp (maxDischargeDepth := 8) only [bb, kk, fz]; done) | kernel_rfl)) | ((with_reducible first | refine qf4 ?_ ?_ | refine qf5 ?_ ?_ | refine qf6 ?_ ?_ | refine qf7 ?_ ?_ | refine qf8 ?_ ?_ | refine qf9 ?_ ?_ | refine qg ?_ ?_); focus (first | assumption | omega | (simp only [bz, fz]; omega))) | ((with_reducible first | refine qg0 ?_ ?_ | refine qg1 ?_ ?_ | refine qg2 ?_ ?_); focus (first | assumption | omega | (simp only [bz, fz]; omega))) | ((with_reducible first | refine g1_u8w ?_ ?_ | refine qg4 ?_ ?_); (focus ((repeat' (with_reducible apply And.intro)) <;> (first | assumption | omega | (simp only [bz, fz]; omega) | (simp (maxDischargeDepth := 8) only [bb, fz]; done)))); intro _) | (with_reducible apply call_elim; focus ((with_reducible first | apply e41 | apply e47) <;> (first | assumption | omega | (simp only [bz, fz]; omega) | (simp (maxDischargeDepth := 8) only [bb, fz]; done))))))
def stOK (L : List Ent) (i : Nat) : Bool := entOK (eA L i) && (decide (i = 0) || ltB (eA L (i - 1)).nm (eA L i).nm)
def catOK (L : List Ent) : Bool := (List.range L.length).all (stOK L) && decide (L.length ≤ 5)
theorem catOK_no {L : List Ent} {i : Nat} (h : i < L.length) (hs : stOK L i = false) : catOK L = false := by
  have : (List.range L.length).all (stOK L) = false := List.all_eq_false.mpr ⟨i, List.mem_range.mpr h, by rw [hs]; simp⟩
  simp [catOK, this]
theorem catOK_all {L : List Ent} (h : ∀ i, i < L.length → stOK L i = true) : catOK L = decide (L.length ≤ 5) := by
  have : (List.range L.length).all (stOK L) = true := List.all_eq_true.mpr fun i hi => h i (List.mem_range.mp hi)
  simp [catOK, this]
def Small (L : List Ent) : Prop := L.length ≤ 549755813888 ∧ ∀ i, (eA L i).nm.length ≤ 549755813888
theorem e35 (d : Nat) (L : List Ent) (tg : Tg) (c : Option Nat) (hS : Small L) : evFun E (d+6) 35 [.sl tg 4 L.length c (flat encE L)] [] = some (vb (catOK L), []) := by
  refine evFun_body b35 ?_
  have hl := hS.1
  have hq : decide ((L.length : Int) ≤ 5) = decide (L.length ≤ 5) := by rw [Bool.eq_iff_iff]; simp; omega
  (repeat' (first | simp (maxDischargeDepth := 8) only [go_sem, rr, reduceIte, reduceCtorEq, Nat.reduceEqDiff, Nat.reduceAdd, Nat.reduceMul, Nat.reduceSub, Nat.reduceBEq, Nat.reduceLeDiff, Int.reduceEq, Int.reduceLT, Int.reduceLE, Int.reduceGE, Int.reduceGT, Int.reduceBEq, Int.reduceBNe, Int.reduceToNat, Int.reduceNeg, Int.reduceSub, Int.reduceAdd, Int.reduceMul, Tryd.f35] | (with_reducible refine qg6 ?_ ?_; focus (first | (simp (maxDischargeDepth := 8) only [bb, kk]; done) | kernel_rfl)) | ((with_reducible first | refine qf4 ?_ ?_ | refine qf5 ?_ ?_ | refine qf6 ?_ ?_ | refine qf7 ?_ ?_ | refine qf8 ?_ ?_ | refine qf9 ?_ ?_ | refine qg ?_ ?_); focus (first | assumption | omega | (simp only [bz]; omega))) | ((with_reducible first | refine qg0 ?_ ?_ | refine qg1 ?_ ?_ | refine qg2 ?_ ?_); focus (first | assumption | omega | (simp only [bz]; omega))) | ((with_reducible first | refine g1_u8w ?_ ?_ | refine qg4 ?_ ?_); (focus ((repeat' (with_reducible apply And.intro)) <;> (first | assumption | omega | (simp only [bz]; omega) | (simp (maxDischargeDepth := 8) only [bb]; done)))); intro _)))
  refine loop_inv (fun i => ∀ j, j < i → stOK L j = true) (fun i => {T := tp [(0, .sl tg 4 L.length c (flat encE L)), (5, .sl tg 4 L.length c (flat encE L)), (6, vi L.length), (7, vi i)], H := hp [], nx := 0}) L.length ?_ (fun j h => by omega) (lt_LF (by omega)) (fun i hi hI Kn hK => ?_) (fun hI Kn => ?_)
  · simp only [vv, ff, norm, Array.toList, List.map, Option.isSome_none, bne_self_eq_false, reduceIte, reduceCtorEq, Nat.reduceEqDiff, Nat.reduceAdd, Nat.reduceMul, Nat.reduceSub, Nat.reduceBEq, Nat.reduceLeDiff, Int.reduceEq, Int.reduceLT, Int.reduceLE, Int.reduceGE, Int.reduceGT, Int.reduceBEq, Int.reduceBNe, Int.reduceToNat, Int.reduceNeg, Int.reduceSub, Int.reduceAdd, Int.reduceMul, finish, qe8, resOf, resa, qe9, qf, qf0, keep, qf1, qf2, qf3, qe6, qe7, Int.natCast_zero]
  · have hg := fE_getR L hi
    have h0 := fE_get0 L hi
    have hn := hS.2 i
    have next : stOK L i = true → ∀ j, j < i + 1 → stOK L j = true := fun h j hj => by
      by_cases e : j = i
      · subst e; exact h
      · exact hI j (by omega)
    cases h1 : entOK (eA L i) with
    | false =>
      have hr := catOK_no hi (show stOK L i = false by simp [stOK, h1])
      (have fz := ga4 hg h0 h1 hr; repeat' (first | simp (maxDischargeDepth := 8) only [go_sem, rr, reduceIte, reduceCtorEq, Nat.reduceEqDiff, Nat.reduceAdd, Nat.reduceMul, Nat.reduceSub, Nat.reduceBEq, Nat.reduceLeDiff, Int.reduceEq, Int.reduceLT, Int.reduceLE, Int.reduceGE, Int.reduceGT, Int.reduceBEq, Int.reduceBNe, Int.reduceToNat, Int.reduceNeg, Int.reduceSub, Int.reduceAdd, Int.reduceMul, fz] | (with_reducible refine qg6 ?_ ?_; focus (first | (simp (maxDischargeDepth := 8) only [bb, kk, fz]; done) | kernel_rfl)) | ((with_reducible first | refine qf4 ?_ ?_ | refine qf5 ?_ ?_ | refine qf6 ?_ ?_ | refine qf7 ?_ ?_ | refine qf8 ?_ ?_ | refine qf9 ?_ ?_ | refine qg ?_ ?_); focus (first | assumption | omega | (simp only [bz, fz]; omega))) | ((with_reducible first | refine qg0 ?_ ?_ | refine qg1 ?_ ?_ | refine qg2 ?_ ?_); focus (first | assumption | omega | (simp only [bz, fz]; omega))) | ((with_reducible first | refine g1_u8w ?_ ?_ | refine qg4 ?_ ?_); (focus ((repeat' (with_reducible apply And.intro)) <;> (first | assumption | omega | (simp only [bz, fz]; omega) | (simp (maxDischargeDepth := 8) only [bb, fz]; done)))); intro _) | (with_reducible apply call_elim; focus ((with_reducible first | apply e36) <;> (first | assumption | omega | (simp only [bz, fz]; omega) | (simp (maxDischargeDepth := 8) only [bb, fz]; done))))))
    | true =>
      rcases Nat.eq_zero_or_pos i with hi0 | hi0
      · subst hi0
        (have fz := ga3 hg h0 h1; repeat' (first | simp (maxDischargeDepth := 8) only [go_sem, rr, reduceIte, reduceCtorEq, Nat.reduceEqDiff, Nat.reduceAdd, Nat.reduceMul, Nat.reduceSub, Nat.reduceBEq, Nat.reduceLeDiff, Int.reduceEq, Int.reduceLT, Int.reduceLE, Int.reduceGE, Int.reduceGT, Int.reduceBEq, Int.reduceBNe, Int.reduceToNat, Int.reduceNeg, Int.reduceSub, Int.reduceAdd, Int.reduceMul, fz] | (with_reducible refine qg6 ?_ ?_; focus (first | (simp (maxDischargeDepth := 8) only [bb, kk, fz]; done) | kernel_rfl)) | ((with_reducible first | refine qf4 ?_ ?_ | refine qf5 ?_ ?_ | refine qf6 ?_ ?_ | refine qf7 ?_ ?_ | refine qf8 ?_ ?_ | refine qf9 ?_ ?_ | refine qg ?_ ?_); focus (first | assumption | omega | (simp only [bz, fz]; omega))) | ((with_reducible first | refine qg0 ?_ ?_ | refine qg1 ?_ ?_ | refine qg2 ?_ ?_); focus (first | assumption | omega | (simp only [bz, fz]; omega))) | ((with_reducible first | refine g1_u8w ?_ ?_ | refine qg4 ?_ ?_); (focus ((repeat' (with_reducible apply And.intro)) <;> (first | assumption | omega | (simp only [bz, fz]; omega) | (simp (maxDischargeDepth := 8) only [bb, fz]; done)))); intro _) | (with_reducible apply call_elim; focus ((with_reducible first | apply e36) <;> (first | assumption | omega | (simp only [bz, fz]; omega) | (simp (maxDischargeDepth := 8) only [bb, fz]; done))))))
        refine hK (next (by simp [stOK, h1])) _ ?_
        simp only [vv, ff, norm, Array.toList, List.map, Option.isSome_none, bne_self_eq_false, reduceIte, reduceCtorEq, Nat.reduceEqDiff, Nat.reduceAdd, Nat.reduceMul, Nat.reduceSub, Nat.reduceBEq, Nat.reduceLeDiff, Int.reduceEq, Int.reduceLT, Int.reduceLE, Int.reduceGE, Int.reduceGT, Int.reduceBEq, Int.reduceBNe, Int.reduceToNat, Int.reduceNeg, Int.reduceSub, Int.reduceAdd, Int.reduceMul, finish, qe8, resOf, resa, qe9, qf, qf0, keep, qf1, qf2, qf3, qe6, qe7, Int.natCast_add, cst1]
      · have hp := fE_get0 L (show i - 1 < L.length by omega)
        cases h2 : ltB (eA L (i - 1)).nm (eA L i).nm with
        | false =>
          have hr := catOK_no hi (show stOK L i = false by simp [stOK, h2]; omega)
          (have fz := ga5 hg h0 h1 h2 hr; repeat' (first | simp (maxDischargeDepth := 8) only [go_sem, rr, reduceIte, reduceCtorEq, Nat.reduceEqDiff, Nat.reduceAdd, Nat.reduceMul, Nat.reduceSub, Nat.reduceBEq, Nat.reduceLeDiff, Int.reduceEq, Int.reduceLT, Int.reduceLE, Int.reduceGE, Int.reduceGT, Int.reduceBEq, Int.reduceBNe, Int.reduceToNat, Int.reduceNeg, Int.reduceSub, Int.reduceAdd, Int.reduceMul, fz, hp] | (with_reducible refine qg6 ?_ ?_; focus (first | (simp (maxDischargeDepth := 8) only [bb, kk, fz, hp]; done) | kernel_rfl)) | ((with_reducible first | refine qf4 ?_ ?_ | refine qf5 ?_ ?_ | refine qf6 ?_ ?_ | refine qf7 ?_ ?_ | refine qf8 ?_ ?_ | refine qf9 ?_ ?_ | refine qg ?_ ?_); focus (first | assumption | omega | (simp only [bz, fz, hp]; omega))) | ((with_reducible first | refine qg0 ?_ ?_ | refine qg1 ?_ ?_ | refine qg2 ?_ ?_); focus (first | assumption | omega | (simp only [bz, fz, hp]; omega))) | ((with_reducible first | refine g1_u8w ?_ ?_ | refine qg4 ?_ ?_); (focus ((repeat' (with_reducible apply And.intro)) <;> (first | assumption | omega | (simp only [bz, fz, hp]; omega) | (simp (maxDischargeDepth := 8) only [bb, fz, hp]; done)))); intro _) | (with_reducible apply call_elim; focus ((with_reducible first | apply e36) <;> (first | assumption | omega | (simp only [bz, fz, hp]; omega) | (simp (maxDischargeDepth := 8) only [bb, fz, hp]; done))))))
        | true =>
          (have fz := ga4 hg h0 h1 h2; repeat' (first | simp (maxDischargeDepth := 8) only [go_sem, rr, reduceIte, reduceCtorEq, Nat.reduceEqDiff, Nat.reduceAdd, Nat.reduceMul, Nat.reduceSub, Nat.reduceBEq, Nat.reduceLeDiff, Int.reduceEq, Int.reduceLT, Int.reduceLE, Int.reduceGE, Int.reduceGT, Int.reduceBEq, Int.reduceBNe, Int.reduceToNat, Int.reduceNeg, Int.reduceSub, Int.reduceAdd, Int.reduceMul, fz, hp] | (with_reducible refine qg6 ?_ ?_; focus (first | (simp (maxDischargeDepth := 8) only [bb, kk, fz, hp]; done) | kernel_rfl)) | ((with_reducible first | refine qf4 ?_ ?_ | refine qf5 ?_ ?_ | refine qf6 ?_ ?_ | refine qf7 ?_ ?_ | refine qf8 ?_ ?_ | refine qf9 ?_ ?_ | refine qg ?_ ?_); focus (first | assumption | omega | (simp only [bz, fz, hp]; omega))) | ((with_reducible first | refine qg0 ?_ ?_ | refine qg1 ?_ ?_ | refine qg2 ?_ ?_); focus (first | assumption | omega | (simp only [bz, fz, hp]; omega))) | ((with_reducible first | refine g1_u8w ?_ ?_ | refine qg4 ?_ ?_); (focus ((repeat' (with_reducible apply And.intro)) <;> (first | assumption | omega | (simp only [bz, fz, hp]; omega) | (simp (maxDischargeDepth := 8) only [bb, fz, hp]; done)))); intro _) | (with_reducible apply call_elim; focus ((with_reducible first | apply e36) <;> (first | assumption | omega | (simp only [bz, fz, hp]; omega) | (simp (maxDischargeDepth := 8) only [bb, fz, hp]; done))))))
          refine hK (next (by simp [stOK, h1, h2])) _ ?_
          simp only [vv, ff, norm, Array.toList, List.map, Option.isSome_none, bne_self_eq_false, reduceIte, reduceCtorEq, Nat.reduceEqDiff, Nat.reduceAdd, Nat.reduceMul, Nat.reduceSub, Nat.reduceBEq, Nat.reduceLeDiff, Int.reduceEq, Int.reduceLT, Int.reduceLE, Int.reduceGE, Int.reduceGT, Int.reduceBEq, Int.reduceBNe, Int.reduceToNat, Int.reduceNeg, Int.reduceSub, Int.reduceAdd, Int.reduceMul, finish, qe8, resOf, resa, qe9, qf, qf0, keep, qf1, qf2, qf3, qe6, qe7, Int.natCast_add, cst1]
  · have hr := catOK_all hI
    (have fz := ga2 hr hq; repeat' (first | simp (maxDischargeDepth := 8) only [go_sem, rr, reduceIte, reduceCtorEq, Nat.reduceEqDiff, Nat.reduceAdd, Nat.reduceMul, Nat.reduceSub, Nat.reduceBEq, Nat.reduceLeDiff, Int.reduceEq, Int.reduceLT, Int.reduceLE, Int.reduceGE, Int.reduceGT, Int.reduceBEq, Int.reduceBNe, Int.reduceToNat, Int.reduceNeg, Int.reduceSub, Int.reduceAdd, Int.reduceMul, fz] | (with_reducible refine qg6 ?_ ?_; focus (first | (simp (maxDischargeDepth := 8) only [bb, kk, fz]; done) | kernel_rfl)) | ((with_reducible first | refine qf4 ?_ ?_ | refine qf5 ?_ ?_ | refine qf6 ?_ ?_ | refine qf7 ?_ ?_ | refine qf8 ?_ ?_ | refine qf9 ?_ ?_ | refine qg ?_ ?_); focus (first | assumption | omega | (simp only [bz, fz]; omega))) | ((with_reducible first | refine qg0 ?_ ?_ | refine qg1 ?_ ?_ | refine qg2 ?_ ?_); focus (first | assumption | omega | (simp only [bz, fz]; omega))) | ((with_reducible first | refine g1_u8w ?_ ?_ | refine qg4 ?_ ?_); (focus ((repeat' (with_reducible apply And.intro)) <;> (first | assumption | omega | (simp only [bz, fz]; omega) | (simp (maxDischargeDepth := 8) only [bb, fz]; done)))); intro _)))
theorem e31 (d : Nat) (L : List Ent) (tg : Tg) (c : Option Nat) (hS : Small L) : evFun E (d+4) 31 [.sl tg 4 L.length c (flat encE L)] [] = some (vb (catOK L), []) := by
  refine evFun_body b31 ?_
  have hl := hS.1
  have hq : decide ((L.length : Int) ≤ 5) = decide (L.length ≤ 5) := by rw [Bool.eq_iff_iff]; simp; omega
  (repeat' (first | simp (maxDischargeDepth := 8) only [go_sem, rr, reduceIte, reduceCtorEq, Nat.reduceEqDiff, Nat.reduceAdd, Nat.reduceMul, Nat.reduceSub, Nat.reduceBEq, Nat.reduceLeDiff, Int.reduceEq, Int.reduceLT, Int.reduceLE, Int.reduceGE, Int.reduceGT, Int.reduceBEq, Int.reduceBNe, Int.reduceToNat, Int.reduceNeg, Int.reduceSub, Int.reduceAdd, Int.reduceMul, Tryd.f31] | (with_reducible refine qg6 ?_ ?_; focus (first | (simp (maxDischargeDepth := 8) only [bb, kk]; done) | kernel_rfl)) | ((with_reducible first | refine qf4 ?_ ?_ | refine qf5 ?_ ?_ | refine qf6 ?_ ?_ | refine qf7 ?_ ?_ | refine qf8 ?_ ?_ | refine qf9 ?_ ?_ | refine qg ?_ ?_); focus (first | assumption | omega | (simp only [bz]; omega))) | ((with_reducible first | refine qg0 ?_ ?_ | refine qg1 ?_ ?_ | refine qg2 ?_ ?_); focus (first | assumption | omega | (simp only [bz]; omega))) | ((with_reducible first | refine g1_u8w ?_ ?_ | refine qg4 ?_ ?_); (focus ((repeat' (with_reducible apply And.intro)) <;> (first | assumption | omega | (simp only [bz]; omega) | (simp (maxDischargeDepth := 8) only [bb]; done)))); intro _)))
  refine loop_inv (fun i => ∀ j, j < i → stOK L j = true) (fun i => {T := tp [(0, .sl tg 4 L.length c (flat encE L)), (3, vi i)], H := hp [], nx := 0}) L.length ?_ (fun j h => by omega) (lt_LF (by omega)) (fun i hi hI Kn hK => ?_) (fun hI Kn => ?_)
  · simp only [vv, ff, norm, Array.toList, List.map, Option.isSome_none, bne_self_eq_false, reduceIte, reduceCtorEq, Nat.reduceEqDiff, Nat.reduceAdd, Nat.reduceMul, Nat.reduceSub, Nat.reduceBEq, Nat.reduceLeDiff, Int.reduceEq, Int.reduceLT, Int.reduceLE, Int.reduceGE, Int.reduceGT, Int.reduceBEq, Int.reduceBNe, Int.reduceToNat, Int.reduceNeg, Int.reduceSub, Int.reduceAdd, Int.reduceMul, finish, qe8, resOf, resa, qe9, qf, qf0, keep, qf1, qf2, qf3, qe6, qe7, Int.natCast_zero]
  · have hg := fE_getR L hi
    have h0 := fE_get0 L hi
    have hn := hS.2 i
    have next : stOK L i = true → ∀ j, j < i + 1 → stOK L j = true := fun h j hj => by
      by_cases e : j = i
      · subst e; exact h
      · exact hI j (by omega)
    cases h1 : entOK (eA L i) with
    | false =>
      have hr := catOK_no hi (show stOK L i = false by simp [stOK, h1])
      (have fz := ga4 hg h0 h1 hr; repeat' (first | simp (maxDischargeDepth := 8) only [go_sem, rr, reduceIte, reduceCtorEq, Nat.reduceEqDiff, Nat.reduceAdd, Nat.reduceMul, Nat.reduceSub, Nat.reduceBEq, Nat.reduceLeDiff, Int.reduceEq, Int.reduceLT, Int.reduceLE, Int.reduceGE, Int.reduceGT, Int.reduceBEq, Int.reduceBNe, Int.reduceToNat, Int.reduceNeg, Int.reduceSub, Int.reduceAdd, Int.reduceMul, fz] | (with_reducible refine qg6 ?_ ?_; focus (first | (simp (maxDischargeDepth := 8) only [bb, kk, fz]; done) | kernel_rfl)) | ((with_reducible first | refine qf4 ?_ ?_ | refine qf5 ?_ ?_ | refine qf6 ?_ ?_ | refine qf7 ?_ ?_ | refine qf8 ?_ ?_ | refine qf9 ?_ ?_ | refine qg ?_ ?_); focus (first | assumption | omega | (simp only [bz, fz]; omega))) | ((with_reducible first | refine qg0 ?_ ?_ | refine qg1 ?_ ?_ | refine qg2 ?_ ?_); focus (first | assumption | omega | (simp only [bz, fz]; omega))) | ((with_reducible first | refine g1_u8w ?_ ?_ | refine qg4 ?_ ?_); (focus ((repeat' (with_reducible apply And.intro)) <;> (first | assumption | omega | (simp only [bz, fz]; omega) | (simp (maxDischargeDepth := 8) only [bb, fz]; done)))); intro _) | (with_reducible apply call_elim; focus ((with_reducible first | apply e32) <;> (first | assumption | omega | (simp only [bz, fz]; omega) | (simp (maxDischargeDepth := 8) only [bb, fz]; done))))))
    | true =>
      rcases Nat.eq_zero_or_pos i with hi0 | hi0
      · subst hi0
        (have fz := ga3 hg h0 h1; repeat' (first | simp (maxDischargeDepth := 8) only [go_sem, rr, reduceIte, reduceCtorEq, Nat.reduceEqDiff, Nat.reduceAdd, Nat.reduceMul, Nat.reduceSub, Nat.reduceBEq, Nat.reduceLeDiff, Int.reduceEq, Int.reduceLT, Int.reduceLE, Int.reduceGE, Int.reduceGT, Int.reduceBEq, Int.reduceBNe, Int.reduceToNat, Int.reduceNeg, Int.reduceSub, Int.reduceAdd, Int.reduceMul, fz] | (with_reducible refine qg6 ?_ ?_; focus (first | (simp (maxDischargeDepth := 8) only [bb, kk, fz]; done) | kernel_rfl)) | ((with_reducible first | refine qf4 ?_ ?_ | refine qf5 ?_ ?_ | refine qf6 ?_ ?_ | refine qf7 ?_ ?_ | refine qf8 ?_ ?_ | refine qf9 ?_ ?_ | refine qg ?_ ?_); focus (first | assumption | omega | (simp only [bz, fz]; omega))) | ((with_reducible first | refine qg0 ?_ ?_ | refine qg1 ?_ ?_ | refine qg2 ?_ ?_); focus (first | assumption | omega | (simp only [bz, fz]; omega))) | ((with_reducible first | refine g1_u8w ?_ ?_ | refine qg4 ?_ ?_); (focus ((repeat' (with_reducible apply And.intro)) <;> (first | assumption | omega | (simp only [bz, fz]; omega) | (simp (maxDischargeDepth := 8) only [bb, fz]; done)))); intro _) | (with_reducible apply call_elim; focus ((with_reducible first | apply e32) <;> (first | assumption | omega | (simp only [bz, fz]; omega) | (simp (maxDischargeDepth := 8) only [bb, fz]; done))))))
        refine hK (next (by simp [stOK, h1])) _ ?_
        simp only [vv, ff, norm, Array.toList, List.map, Option.isSome_none, bne_self_eq_false, reduceIte, reduceCtorEq, Nat.reduceEqDiff, Nat.reduceAdd, Nat.reduceMul, Nat.reduceSub, Nat.reduceBEq, Nat.reduceLeDiff, Int.reduceEq, Int.reduceLT, Int.reduceLE, Int.reduceGE, Int.reduceGT, Int.reduceBEq, Int.reduceBNe, Int.reduceToNat, Int.reduceNeg, Int.reduceSub, Int.reduceAdd, Int.reduceMul, finish, qe8, resOf, resa, qe9, qf, qf0, keep, qf1, qf2, qf3, qe6, qe7, Int.natCast_add, cst1]
      · have hp := fE_get0 L (show i - 1 < L.length by omega)
        cases h2 : ltB (eA L (i - 1)).nm (eA L i).nm with
        | false =>
          have hr := catOK_no hi (show stOK L i = false by simp [stOK, h2]; omega)
          (have fz := ga5 hg h0 h1 h2 hr; repeat' (first | simp (maxDischargeDepth := 8) only [go_sem, rr, reduceIte, reduceCtorEq, Nat.reduceEqDiff, Nat.reduceAdd, Nat.reduceMul, Nat.reduceSub, Nat.reduceBEq, Nat.reduceLeDiff, Int.reduceEq, Int.reduceLT, Int.reduceLE, Int.reduceGE, Int.reduceGT, Int.reduceBEq, Int.reduceBNe, Int.reduceToNat, Int.reduceNeg, Int.reduceSub, Int.reduceAdd, Int.reduceMul, fz, hp] | (with_reducible refine qg6 ?_ ?_; focus (first | (simp (maxDischargeDepth := 8) only [bb, kk, fz, hp]; done) | kernel_rfl)) | ((with_reducible first | refine qf4 ?_ ?_ | refine qf5 ?_ ?_ | refine qf6 ?_ ?_ | refine qf7 ?_ ?_ | refine qf8 ?_ ?_ | refine qf9 ?_ ?_ | refine qg ?_ ?_); focus (first | assumption | omega | (simp only [bz, fz, hp]; omega))) | ((with_reducible first | refine qg0 ?_ ?_ | refine qg1 ?_ ?_ | refine qg2 ?_ ?_); focus (first | assumption | omega | (simp only [bz, fz, hp]; omega))) | ((with_reducible first | refine g1_u8w ?_ ?_ | refine qg4 ?_ ?_); (focus ((repeat' (with_reducible apply And.intro)) <;> (first | assumption | omega | (simp only [bz, fz, hp]; omega) | (simp (maxDischargeDepth := 8) only [bb, fz, hp]; done)))); intro _) | (with_reducible apply call_elim; focus ((with_reducible first | apply e32) <;> (first | assumption | omega | (simp only [bz, fz, hp]; omega) | (simp (maxDischargeDepth := 8) only [bb, fz, hp]; done))))))
        | true =>
          (have fz := ga4 hg h0 h1 h2; repeat' (first | simp (maxDischargeDepth := 8) only [go_sem, rr, reduceIte, reduceCtorEq, Nat.reduceEqDiff, Nat.reduceAdd, Nat.reduceMul, Nat.reduceSub, Nat.reduceBEq, Nat.reduceLeDiff, Int.reduceEq, Int.reduceLT, Int.reduceLE, Int.reduceGE, Int.reduceGT, Int.reduceBEq, Int.reduceBNe, Int.reduceToNat, Int.reduceNeg, Int.reduceSub, Int.reduceAdd, Int.reduceMul, fz, hp] | (with_reducible refine qg6 ?_ ?_; focus (first | (simp (maxDischargeDepth := 8) only [bb, kk, fz, hp]; done) | kernel_rfl)) | ((with_reducible first | refine qf4 ?_ ?_ | refine qf5 ?_ ?_ | refine qf6 ?_ ?_ | refine qf7 ?_ ?_ | refine qf8 ?_ ?_ | refine qf9 ?_ ?_ | refine qg ?_ ?_); focus (first | assumption | omega | (simp only [bz, fz, hp]; omega))) | ((with_reducible first | refine qg0 ?_ ?_ | refine qg1 ?_ ?_ | refine qg2 ?_ ?_); focus (first | assumption | omega | (simp only [bz, fz, hp]; omega))) | ((with_reducible first | refine g1_u8w ?_ ?_ | refine qg4 ?_ ?_); (focus ((repeat' (with_reducible apply And.intro)) <;> (first | assumption | omega | (simp only [bz, fz, hp]; omega) | (simp (maxDischargeDepth := 8) only [bb, fz, hp]; done)))); intro _) | (with_reducible apply call_elim; focus ((with_reducible first | apply e32) <;> (first | assumption | omega | (simp only [bz, fz, hp]; omega) | (simp (maxDischargeDepth := 8) only [bb, fz, hp]; done))))))
          refine hK (next (by simp [stOK, h1, h2])) _ ?_
          simp only [vv, ff, norm, Array.toList, List.map, Option.isSome_none, bne_self_eq_false, reduceIte, reduceCtorEq, Nat.reduceEqDiff, Nat.reduceAdd, Nat.reduceMul, Nat.reduceSub, Nat.reduceBEq, Nat.reduceLeDiff, Int.reduceEq, Int.reduceLT, Int.reduceLE, Int.reduceGE, Int.reduceGT, Int.reduceBEq, Int.reduceBNe, Int.reduceToNat, Int.reduceNeg, Int.reduceSub, Int.reduceAdd, Int.reduceMul, finish, qe8, resOf, resa, qe9, qf, qf0, keep, qf1, qf2, qf3, qe6, qe7, Int.natCast_add, cst1]
  · have hr := catOK_all hI
    (have fz := ga2 hr hq; repeat' (first | simp (maxDischargeDepth := 8) only [go_sem, rr, reduceIte, reduceCtorEq, Nat.reduceEqDiff, Nat.reduceAdd, Nat.reduceMul, Nat.reduceSub, Nat.reduceBEq, Nat.reduceLeDiff, Int.reduceEq, Int.reduceLT, Int.reduceLE, Int.reduceGE, Int.reduceGT, Int.reduceBEq, Int.reduceBNe, Int.reduceToNat, Int.reduceNeg, Int.reduceSub, Int.reduceAdd, Int.reduceMul, fz] | (with_reducible refine qg6 ?_ ?_; focus (first | (simp (maxDischargeDepth := 8) only [bb, kk, fz]; done) | kernel_rfl)) | ((with_reducible first | refine qf4 ?_ ?_ | refine qf5 ?_ ?_ | refine qf6 ?_ ?_ | refine qf7 ?_ ?_ | refine qf8 ?_ ?_ | refine qf9 ?_ ?_ | refine qg ?_ ?_); focus (first | assumption | omega | (simp only [bz, fz]; omega))) | ((with_reducible first | refine qg0 ?_ ?_ | refine qg1 ?_ ?_ | refine qg2 ?_ ?_); focus (first | assumption | omega | (simp only [bz, fz]; omega))) | ((with_reducible first | refine g1_u8w ?_ ?_ | refine qg4 ?_ ?_); (focus ((repeat' (with_reducible apply And.intro)) <;> (first | assumption | omega | (simp only [bz, fz]; omega) | (simp (maxDischargeDepth := 8) only [bb, fz]; done)))); intro _)))
end Go.Proofs.YtghmmockgbiehaaDoor.VH.S
end

section
namespace Go.Proofs.YtghmmockgbiehaaDoor.VH.S
open Go.Proofs
set_option maxRecDepth 100000
set_option maxHeartbeats 8000000
set_option linter.unusedSimpArgs false

def sumN (L : List Ent) : Nat → Nat
  | 0 => 0
  | i + 1 => sumN L i + (eA L i).nm.length
theorem sumN_mono (L : List Ent) {i j : Nat} (h : i ≤ j) : sumN L i ≤ sumN L j := by
  induction j with
  | zero => have : i = 0 := by omega
            subst this; exact Nat.le_refl _
  | succ j ih =>
    by_cases e : i = j + 1
    · subst e; exact Nat.le_refl _
    · have := ih (by omega); simp only [sumN]; omega
theorem sumN_one (L : List Ent) {i : Nat} (h : i < L.length) : (eA L i).nm.length ≤ sumN L L.length := by
  have := sumN_mono L (show i + 1 ≤ L.length by omega); simp only [sumN] at this; omega
def totN (L : List Ent) : Nat := L.length + sumN L L.length
theorem small_of {L : List Ent} (h : totN L ≤ 549755813888) : Small L := by
  refine ⟨by unfold totN at h; omega, fun i => ?_⟩
  by_cases hi : i < L.length
  · have := sumN_one L hi; unfold totN at h; omega
  · have : eA L i = e0 := by rw [eA, List.getD_eq_getElem?_getD, List.getElem?_eq_none (by omega)]; rfl
    rw [this]; simp [e0]
def Names (L : List Ent) : Prop := ∀ i, (eA L i).nm.length ≤ 9223372036854775807
theorem e15 (d : Nat) (e : Ent) (left : Int) (hl : e.nm.length ≤ 9223372036854775807) (h0 : 0 ≤ left) (h1 : left ≤ 1048576) : evFun E (d+1) 15 [.agg [vs e.nm, vi e.v, vi e.s, vi e.r], vi left] [] = some (vi (if (e.nm.length : Int) ≤ left then left - e.nm.length else -1), []) := by
  refine evFun_body b15 ?_
  by_cases h : (e.nm.length : Int) ≤ left
  · (repeat' (first | simp (maxDischargeDepth := 8) only [go_sem, rr, reduceIte, reduceCtorEq, Nat.reduceEqDiff, Nat.reduceAdd, Nat.reduceMul, Nat.reduceSub, Nat.reduceBEq, Nat.reduceLeDiff, Int.reduceEq, Int.reduceLT, Int.reduceLE, Int.reduceGE, Int.reduceGT, Int.reduceBEq, Int.reduceBNe, Int.reduceToNat, Int.reduceNeg, Int.reduceSub, Int.reduceAdd, Int.reduceMul, if_pos h, Tryd.f15] | (with_reducible refine qg6 ?_ ?_; focus (first | (simp (maxDischargeDepth := 8) only [bb, kk, if_pos h]; done) | kernel_rfl)) | ((with_reducible first | refine qf4 ?_ ?_ | refine qf5 ?_ ?_ | refine qf6 ?_ ?_ | refine qf7 ?_ ?_ | refine qf8 ?_ ?_ | refine qf9 ?_ ?_ | refine qg ?_ ?_); focus (first | assumption | omega | (simp only [bz, if_pos h]; omega))) | ((with_reducible first | refine qg0 ?_ ?_ | refine qg1 ?_ ?_ | refine qg2 ?_ ?_); focus (first | assumption | omega | (simp only [bz, if_pos h]; omega))) | ((with_reducible first | refine g1_u8w ?_ ?_ | refine qg4 ?_ ?_); (focus ((repeat' (with_reducible apply And.intro)) <;> (first | assumption | omega | (simp only [bz, if_pos h]; omega) | (simp (maxDischargeDepth := 8) only [bb, if_pos h]; done)))); intro _) | ((with_reducible refine g1_64w ?_ ?_); (focus ((repeat' (with_reducible apply And.intro)) <;> (first | assumption | omega | (simp only [bz, if_pos h]; omega) | (simp (maxDischargeDepth := 8) only [bb, if_pos h]; done)))); intro _)))
  · (repeat' (first | simp (maxDischargeDepth := 8) only [go_sem, rr, reduceIte, reduceCtorEq, Nat.reduceEqDiff, Nat.reduceAdd, Nat.reduceMul, Nat.reduceSub, Nat.reduceBEq, Nat.reduceLeDiff, Int.reduceEq, Int.reduceLT, Int.reduceLE, Int.reduceGE, Int.reduceGT, Int.reduceBEq, Int.reduceBNe, Int.reduceToNat, Int.reduceNeg, Int.reduceSub, Int.reduceAdd, Int.reduceMul, if_neg h, Tryd.f15] | (with_reducible refine qg6 ?_ ?_; focus (first | (simp (maxDischargeDepth := 8) only [bb, kk, if_neg h]; done) | kernel_rfl)) | ((with_reducible first | refine qf4 ?_ ?_ | refine qf5 ?_ ?_ | refine qf6 ?_ ?_ | refine qf7 ?_ ?_ | refine qf8 ?_ ?_ | refine qf9 ?_ ?_ | refine qg ?_ ?_); focus (first | assumption | omega | (simp only [bz, if_neg h]; omega))) | ((with_reducible first | refine qg0 ?_ ?_ | refine qg1 ?_ ?_ | refine qg2 ?_ ?_); focus (first | assumption | omega | (simp only [bz, if_neg h]; omega))) | ((with_reducible first | refine g1_u8w ?_ ?_ | refine qg4 ?_ ?_); (focus ((repeat' (with_reducible apply And.intro)) <;> (first | assumption | omega | (simp only [bz, if_neg h]; omega) | (simp (maxDischargeDepth := 8) only [bb, if_neg h]; done)))); intro _) | ((with_reducible refine g1_64w ?_ ?_); (focus ((repeat' (with_reducible apply And.intro)) <;> (first | assumption | omega | (simp only [bz, if_neg h]; omega) | (simp (maxDischargeDepth := 8) only [bb, if_neg h]; done)))); intro _)))
theorem e14 (d : Nat) (L : List Ent) (tg : Tg) (c : Option Nat) (left : Int) (hL : L.length ≤ 9223372036854775807) (hN : Names L) (h0 : 0 ≤ left) (h1 : left ≤ 1048576) : evFun E (d+2) 14 [.sl tg 4 L.length c (flat encE L), vi left] [] = some (vi (if (totN L : Int) ≤ left then left - totN L else -1), []) := by
  refine evFun_body b14 ?_
  by_cases hn : (L.length : Int) ≤ left
  · (repeat' (first | simp (maxDischargeDepth := 8) only [go_sem, rr, reduceIte, reduceCtorEq, Nat.reduceEqDiff, Nat.reduceAdd, Nat.reduceMul, Nat.reduceSub, Nat.reduceBEq, Nat.reduceLeDiff, Int.reduceEq, Int.reduceLT, Int.reduceLE, Int.reduceGE, Int.reduceGT, Int.reduceBEq, Int.reduceBNe, Int.reduceToNat, Int.reduceNeg, Int.reduceSub, Int.reduceAdd, Int.reduceMul, Tryd.f14] | (with_reducible refine qg6 ?_ ?_; focus (first | (simp (maxDischargeDepth := 8) only [bb, kk]; done) | kernel_rfl)) | ((with_reducible first | refine qf4 ?_ ?_ | refine qf5 ?_ ?_ | refine qf6 ?_ ?_ | refine qf7 ?_ ?_ | refine qf8 ?_ ?_ | refine qf9 ?_ ?_ | refine qg ?_ ?_); focus (first | assumption | omega | (simp only [bz]; omega))) | ((with_reducible first | refine qg0 ?_ ?_ | refine qg1 ?_ ?_ | refine qg2 ?_ ?_); focus (first | assumption | omega | (simp only [bz]; omega))) | ((with_reducible first | refine g1_u8w ?_ ?_ | refine qg4 ?_ ?_); (focus ((repeat' (with_reducible apply And.intro)) <;> (first | assumption | omega | (simp only [bz]; omega) | (simp (maxDischargeDepth := 8) only [bb]; done)))); intro _) | ((with_reducible refine g1_64w ?_ ?_); (focus ((repeat' (with_reducible apply And.intro)) <;> (first | assumption | omega | (simp only [bz]; omega) | (simp (maxDischargeDepth := 8) only [bb]; done)))); intro _)))
    refine loop_inv (fun i => (L.length : Int) + sumN L i ≤ left) (fun i => {T := tp [(0, .sl tg 4 L.length c (flat encE L)), (1, vi (left - L.length - sumN L i)), (5, vi i)], H := hp [], nx := 0}) L.length ?_ (by simp only [sumN]; omega) (lt_LF (by omega)) (fun i hi hI Kn hK => ?_) (fun hI Kn => ?_)
    · simp only [vv, ff, norm, Array.toList, List.map, Option.isSome_none, bne_self_eq_false, reduceIte, reduceCtorEq, Nat.reduceEqDiff, Nat.reduceAdd, Nat.reduceMul, Nat.reduceSub, Nat.reduceBEq, Nat.reduceLeDiff, Int.reduceEq, Int.reduceLT, Int.reduceLE, Int.reduceGE, Int.reduceGT, Int.reduceBEq, Int.reduceBNe, Int.reduceToNat, Int.reduceNeg, Int.reduceSub, Int.reduceAdd, Int.reduceMul, finish, qe8, resOf, resa, qe9, qf, qf0, keep, qf1, qf2, qf3, qe6, qe7, Int.natCast_zero, sumN, Int.sub_zero]
    · have hg := fE_getR L hi
      have hnm := hN i
      by_cases hs : (eA L i).nm.length ≤ left - L.length - sumN L i
      · (repeat' (first | simp (maxDischargeDepth := 8) only [go_sem, rr, reduceIte, reduceCtorEq, Nat.reduceEqDiff, Nat.reduceAdd, Nat.reduceMul, Nat.reduceSub, Nat.reduceBEq, Nat.reduceLeDiff, Int.reduceEq, Int.reduceLT, Int.reduceLE, Int.reduceGE, Int.reduceGT, Int.reduceBEq, Int.reduceBNe, Int.reduceToNat, Int.reduceNeg, Int.reduceSub, Int.reduceAdd, Int.reduceMul, hg, if_pos hs] | (with_reducible refine qg6 ?_ ?_; focus (first | (simp (maxDischargeDepth := 8) only [bb, kk, hg, if_pos hs]; done) | kernel_rfl)) | ((with_reducible first | refine qf4 ?_ ?_ | refine qf5 ?_ ?_ | refine qf6 ?_ ?_ | refine qf7 ?_ ?_ | refine qf8 ?_ ?_ | refine qf9 ?_ ?_ | refine qg ?_ ?_); focus (first | assumption | omega | (simp only [bz, hg, if_pos hs]; omega))) | ((with_reducible first | refine qg0 ?_ ?_ | refine qg1 ?_ ?_ | refine qg2 ?_ ?_); focus (first | assumption | omega | (simp only [bz, hg, if_pos hs]; omega))) | ((with_reducible first | refine g1_u8w ?_ ?_ | refine qg4 ?_ ?_); (focus ((repeat' (with_reducible apply And.intro)) <;> (first | assumption | omega | (simp only [bz, hg, if_pos hs]; omega) | (simp (maxDischargeDepth := 8) only [bb, hg, if_pos hs]; done)))); intro _) | ((with_reducible refine g1_64w ?_ ?_); (focus ((repeat' (with_reducible apply And.intro)) <;> (first | assumption | omega | (simp only [bz, hg, if_pos hs]; omega) | (simp (maxDischargeDepth := 8) only [bb, hg, if_pos hs]; done)))); intro _) | (with_reducible apply call_elim; focus ((with_reducible first | apply e15) <;> (first | assumption | omega | (simp only [bz, hg, if_pos hs]; omega) | (simp (maxDischargeDepth := 8) only [bb, hg, if_pos hs]; done))))))
        refine hK (by simp only [sumN]; omega) _ ?_
        simp only [vv, ff, norm, Array.toList, List.map, Option.isSome_none, bne_self_eq_false, reduceIte, reduceCtorEq, Nat.reduceEqDiff, Nat.reduceAdd, Nat.reduceMul, Nat.reduceSub, Nat.reduceBEq, Nat.reduceLeDiff, Int.reduceEq, Int.reduceLT, Int.reduceLE, Int.reduceGE, Int.reduceGT, Int.reduceBEq, Int.reduceBNe, Int.reduceToNat, Int.reduceNeg, Int.reduceSub, Int.reduceAdd, Int.reduceMul, finish, qe8, resOf, resa, qe9, qf, qf0, keep, qf1, qf2, qf3, qe6, qe7, Int.natCast_add, cst1, sumN, Int.sub_sub, Int.add_assoc]
      · have hr : ¬ ((totN L : Int) ≤ left) := by
          have := sumN_mono L (show i + 1 ≤ L.length by omega)
          simp only [sumN] at this
          unfold totN; omega
        (repeat' (first | simp (maxDischargeDepth := 8) only [go_sem, rr, reduceIte, reduceCtorEq, Nat.reduceEqDiff, Nat.reduceAdd, Nat.reduceMul, Nat.reduceSub, Nat.reduceBEq, Nat.reduceLeDiff, Int.reduceEq, Int.reduceLT, Int.reduceLE, Int.reduceGE, Int.reduceGT, Int.reduceBEq, Int.reduceBNe, Int.reduceToNat, Int.reduceNeg, Int.reduceSub, Int.reduceAdd, Int.reduceMul, hg, if_neg hs, if_neg hr] | (with_reducible refine qg6 ?_ ?_; focus (first | (simp (maxDischargeDepth := 8) only [bb, kk, hg, if_neg hs, if_neg hr]; done) | kernel_rfl)) | ((with_reducible first | refine qf4 ?_ ?_ | refine qf5 ?_ ?_ | refine qf6 ?_ ?_ | refine qf7 ?_ ?_ | refine qf8 ?_ ?_ | refine qf9 ?_ ?_ | refine qg ?_ ?_); focus (first | assumption | omega | (simp only [bz, hg, if_neg hs, if_neg hr]; omega))) | ((with_reducible first | refine qg0 ?_ ?_ | refine qg1 ?_ ?_ | refine qg2 ?_ ?_); focus (first | assumption | omega | (simp only [bz, hg, if_neg hs, if_neg hr]; omega))) | ((with_reducible first | refine g1_u8w ?_ ?_ | refine qg4 ?_ ?_); (focus ((repeat' (with_reducible apply And.intro)) <;> (first | assumption | omega | (simp only [bz, hg, if_neg hs, if_neg hr]; omega) | (simp (maxDischargeDepth := 8) only [bb, hg, if_neg hs, if_neg hr]; done)))); intro _) | ((with_reducible refine g1_64w ?_ ?_); (focus ((repeat' (with_reducible apply And.intro)) <;> (first | assumption | omega | (simp only [bz, hg, if_neg hs, if_neg hr]; omega) | (simp (maxDischargeDepth := 8) only [bb, hg, if_neg hs, if_neg hr]; done)))); intro _) | (with_reducible apply call_elim; focus ((with_reducible first | apply e15) <;> (first | assumption | omega | (simp only [bz, hg, if_neg hs, if_neg hr]; omega) | (simp (maxDischargeDepth := 8) only [bb, hg, if_neg hs, if_neg hr]; done))))))
    · have hr : (totN L : Int) ≤ left := by unfold totN; omega
      have he : left - L.length - sumN L L.length = left - totN L := by unfold totN; omega
      (repeat' (first | simp (maxDischargeDepth := 8) only [go_sem, rr, reduceIte, reduceCtorEq, Nat.reduceEqDiff, Nat.reduceAdd, Nat.reduceMul, Nat.reduceSub, Nat.reduceBEq, Nat.reduceLeDiff, Int.reduceEq, Int.reduceLT, Int.reduceLE, Int.reduceGE, Int.reduceGT, Int.reduceBEq, Int.reduceBNe, Int.reduceToNat, Int.reduceNeg, Int.reduceSub, Int.reduceAdd, Int.reduceMul, if_pos hr, he] | (with_reducible refine qg6 ?_ ?_; focus (first | (simp (maxDischargeDepth := 8) only [bb, kk, if_pos hr, he]; done) | kernel_rfl)) | ((with_reducible first | refine qf4 ?_ ?_ | refine qf5 ?_ ?_ | refine qf6 ?_ ?_ | refine qf7 ?_ ?_ | refine qf8 ?_ ?_ | refine qf9 ?_ ?_ | refine qg ?_ ?_); focus (first | assumption | omega | (simp only [bz, if_pos hr, he]; omega))) | ((with_reducible first | refine qg0 ?_ ?_ | refine qg1 ?_ ?_ | refine qg2 ?_ ?_); focus (first | assumption | omega | (simp only [bz, if_pos hr, he]; omega))) | ((with_reducible first | refine g1_u8w ?_ ?_ | refine qg4 ?_ ?_); (focus ((repeat' (with_reducible apply And.intro)) <;> (first | assumption | omega | (simp only [bz, if_pos hr, he]; omega) | (simp (maxDischargeDepth := 8) only [bb, if_pos hr, he]; done)))); intro _) | ((with_reducible refine g1_64w ?_ ?_); (focus ((repeat' (with_reducible apply And.intro)) <;> (first | assumption | omega | (simp only [bz, if_pos hr, he]; omega) | (simp (maxDischargeDepth := 8) only [bb, if_pos hr, he]; done)))); intro _)))
  · have hr : ¬ ((totN L : Int) ≤ left) := by unfold totN; omega
    (repeat' (first | simp (maxDischargeDepth := 8) only [go_sem, rr, reduceIte, reduceCtorEq, Nat.reduceEqDiff, Nat.reduceAdd, Nat.reduceMul, Nat.reduceSub, Nat.reduceBEq, Nat.reduceLeDiff, Int.reduceEq, Int.reduceLT, Int.reduceLE, Int.reduceGE, Int.reduceGT, Int.reduceBEq, Int.reduceBNe, Int.reduceToNat, Int.reduceNeg, Int.reduceSub, Int.reduceAdd, Int.reduceMul, if_neg hr, Tryd.f14] | (with_reducible refine qg6 ?_ ?_; focus (first | (simp (maxDischargeDepth := 8) only [bb, kk, if_neg hr]; done) | kernel_rfl)) | ((with_reducible first | refine qf4 ?_ ?_ | refine qf5 ?_ ?_ | refine qf6 ?_ ?_ | refine qf7 ?_ ?_ | refine qf8 ?_ ?_ | refine qf9 ?_ ?_ | refine qg ?_ ?_); focus (first | assumption | omega | (simp only [bz, if_neg hr]; omega))) | ((with_reducible first | refine qg0 ?_ ?_ | refine qg1 ?_ ?_ | refine qg2 ?_ ?_); focus (first | assumption | omega | (simp only [bz, if_neg hr]; omega))) | ((with_reducible first | refine g1_u8w ?_ ?_ | refine qg4 ?_ ?_); (focus ((repeat' (with_reducible apply And.intro)) <;> (first | assumption | omega | (simp only [bz, if_neg hr]; omega) | (simp (maxDischargeDepth := 8) only [bb, if_neg hr]; done)))); intro _) | ((with_reducible refine g1_64w ?_ ?_); (focus ((repeat' (with_reducible apply And.intro)) <;> (first | assumption | omega | (simp only [bz, if_neg hr]; omega) | (simp (maxDischargeDepth := 8) only [bb, if_neg hr]; done)))); intro _)))
theorem e18 (d : Nat) (e : Ent) : evFun E (d+1) 18 [.agg [vs e.nm, vi e.v, vi e.s, vi e.r]] [] = some (.agg [vs e.nm, vi e.v, vi e.s, vi e.r], []) := by
  refine evFun_body b18 ?_
  (repeat' (first | simp (maxDischargeDepth := 8) only [go_sem, rr, reduceIte, reduceCtorEq, Nat.reduceEqDiff, Nat.reduceAdd, Nat.reduceMul, Nat.reduceSub, Nat.reduceBEq, Nat.reduceLeDiff, Int.reduceEq, Int.reduceLT, Int.reduceLE, Int.reduceGE, Int.reduceGT, Int.reduceBEq, Int.reduceBNe, Int.reduceToNat, Int.reduceNeg, Int.reduceSub, Int.reduceAdd, Int.reduceMul, Tryd.f18] | (with_reducible refine qg6 ?_ ?_; focus (first | (simp (maxDischargeDepth := 8) only [bb, kk]; done) | kernel_rfl)) | ((with_reducible first | refine qf4 ?_ ?_ | refine qf5 ?_ ?_ | refine qf6 ?_ ?_ | refine qf7 ?_ ?_ | refine qf8 ?_ ?_ | refine qf9 ?_ ?_ | refine qg ?_ ?_); focus (first | assumption | omega | (simp only [bz]; omega))) | ((with_reducible first | refine qg0 ?_ ?_ | refine qg1 ?_ ?_ | refine qg2 ?_ ?_); focus (first | assumption | omega | (simp only [bz]; omega))) | ((with_reducible first | refine g1_u8w ?_ ?_ | refine qg4 ?_ ?_); (focus ((repeat' (with_reducible apply And.intro)) <;> (first | assumption | omega | (simp only [bz]; omega) | (simp (maxDischargeDepth := 8) only [bb]; done)))); intro _) | ((with_reducible refine g1_64w ?_ ?_); (focus ((repeat' (with_reducible apply And.intro)) <;> (first | assumption | omega | (simp only [bz]; omega) | (simp (maxDischargeDepth := 8) only [bb]; done)))); intro _)))
theorem fE_setAt (L : List Ent) {i : Nat} (h : i < L.length) (e : Ent) : setAt (flat encE L) (i * 4) (encE e) = flat encE (L.set i e) := flat_setAt encE_len L h e
theorem e17 (d : Nat) (L : List Ent) (tg : Tg) (c : Option Nat) (hl : L.length ≤ 549755813888) : evFun E (d+2) 17 [.sl tg 4 L.length c (flat encE L)] [] = some (.ref 0 [] 4 0 L.length (some L.length), [some (flat encE L)]) := by
  refine evFun_body b17 ?_
  have hsn := noSnapL_encE L
  have hz0 : ∀ a b, zeros ⟨.struct [(0, 9), (1, 3), (2, 3), (3, 3)], 4, a, [.string ByteArray.empty, .int .i64 0, .int .i64 0, .int .i64 0], b⟩ L.length = flat encE (List.replicate L.length e0) := fun _ _ => by rw [flat_repl]; rfl
  (repeat' (first | simp (maxDischargeDepth := 8) only [go_sem, rr, reduceIte, reduceCtorEq, Nat.reduceEqDiff, Nat.reduceAdd, Nat.reduceMul, Nat.reduceSub, Nat.reduceBEq, Nat.reduceLeDiff, Int.reduceEq, Int.reduceLT, Int.reduceLE, Int.reduceGE, Int.reduceGT, Int.reduceBEq, Int.reduceBNe, Int.reduceToNat, Int.reduceNeg, Int.reduceSub, Int.reduceAdd, Int.reduceMul, hz0, Tryd.f17] | (with_reducible refine qg6 ?_ ?_; focus (first | (simp (maxDischargeDepth := 8) only [bb, kk, hz0]; done) | kernel_rfl)) | ((with_reducible first | refine qf4 ?_ ?_ | refine qf5 ?_ ?_ | refine qf6 ?_ ?_ | refine qf7 ?_ ?_ | refine qf8 ?_ ?_ | refine qf9 ?_ ?_ | refine qg ?_ ?_); focus (first | assumption | omega | (simp only [bz, hz0]; omega))) | ((with_reducible first | refine qg0 ?_ ?_ | refine qg1 ?_ ?_ | refine qg2 ?_ ?_); focus (first | assumption | omega | (simp only [bz, hz0]; omega))) | ((with_reducible first | refine g1_u8w ?_ ?_ | refine qg4 ?_ ?_); (focus ((repeat' (with_reducible apply And.intro)) <;> (first | assumption | omega | (simp only [bz, hz0]; omega) | (simp (maxDischargeDepth := 8) only [bb, hz0]; done)))); intro _) | ((with_reducible refine g1_64w ?_ ?_); (focus ((repeat' (with_reducible apply And.intro)) <;> (first | assumption | omega | (simp only [bz, hz0]; omega) | (simp (maxDischargeDepth := 8) only [bb, hz0]; done)))); intro _)))
  refine loop_go (fun i => {T := tp [(0, .sl tg 4 L.length c (flat encE L)), (3, .ref 0 [] 4 0 L.length (some L.length)), (4, vi i)], H := hp [some (flat encE (partL L e0 i))], nx := 1}) L.length ?_ (lt_LF hl) (fun i hi Kn hK => ?_) (fun Kn => ?_)
  · simp only [vv, ff, norm, Array.toList, List.map, Option.isSome_none, bne_self_eq_false, reduceIte, reduceCtorEq, Nat.reduceEqDiff, Nat.reduceAdd, Nat.reduceMul, Nat.reduceSub, Nat.reduceBEq, Nat.reduceLeDiff, Int.reduceEq, Int.reduceLT, Int.reduceLE, Int.reduceGE, Int.reduceGT, Int.reduceBEq, Int.reduceBNe, Int.reduceToNat, Int.reduceNeg, Int.reduceSub, Int.reduceAdd, Int.reduceMul, finish, qe8, resOf, resa, qe9, qf, qf0, keep, qf1, qf2, qf3, qe6, qe7, Int.natCast_zero, partL_zero]
  · have hg := fE_getR L hi
    have hs := fE_setAt (partL L e0 i) (i := i) (by rw [partL_len _ _ (by omega)]; exact hi) L[i]
    rw [partL_set _ _ hi, ← eA_get hi] at hs
    have hf : (flat encE (partL L e0 i)).length = L.length * 4 := by rw [fE_len, partL_len _ _ (by omega)]
    (have fz := ga3 hg hs hf; repeat' (first | simp (maxDischargeDepth := 8) only [go_sem, rr, reduceIte, reduceCtorEq, Nat.reduceEqDiff, Nat.reduceAdd, Nat.reduceMul, Nat.reduceSub, Nat.reduceBEq, Nat.reduceLeDiff, Int.reduceEq, Int.reduceLT, Int.reduceLE, Int.reduceGE, Int.reduceGT, Int.reduceBEq, Int.reduceBNe, Int.reduceToNat, Int.reduceNeg, Int.reduceSub, Int.reduceAdd, Int.reduceMul, fz, e18] | (with_reducible refine qg6 ?_ ?_; focus (first | (simp (maxDischargeDepth := 8) only [bb, kk, fz, e18]; done) | kernel_rfl)) | ((with_reducible first | refine qf4 ?_ ?_ | refine qf5 ?_ ?_ | refine qf6 ?_ ?_ | refine qf7 ?_ ?_ | refine qf8 ?_ ?_ | refine qf9 ?_ ?_ | refine qg ?_ ?_); focus (first | assumption | omega | (simp only [bz, fz, e18]; omega))) | ((with_reducible first | refine qg0 ?_ ?_ | refine qg1 ?_ ?_ | refine qg2 ?_ ?_); focus (first | assumption | omega | (simp only [bz, fz, e18]; omega))) | ((with_reducible first | refine g1_u8w ?_ ?_ | refine qg4 ?_ ?_); (focus ((repeat' (with_reducible apply And.intro)) <;> (first | assumption | omega | (simp only [bz, fz, e18]; omega) | (simp (maxDischargeDepth := 8) only [bb, fz, e18]; done)))); intro _) | ((with_reducible refine g1_64w ?_ ?_); (focus ((repeat' (with_reducible apply And.intro)) <;> (first | assumption | omega | (simp only [bz, fz, e18]; omega) | (simp (maxDischargeDepth := 8) only [bb, fz, e18]; done)))); intro _)))
    refine hK _ ?_
    simp only [vv, ff, norm, Array.toList, List.map, Option.isSome_none, bne_self_eq_false, reduceIte, reduceCtorEq, Nat.reduceEqDiff, Nat.reduceAdd, Nat.reduceMul, Nat.reduceSub, Nat.reduceBEq, Nat.reduceLeDiff, Int.reduceEq, Int.reduceLT, Int.reduceLE, Int.reduceGE, Int.reduceGT, Int.reduceBEq, Int.reduceBNe, Int.reduceToNat, Int.reduceNeg, Int.reduceSub, Int.reduceAdd, Int.reduceMul, finish, qe8, resOf, resa, qe9, qf, qf0, keep, qf1, qf2, qf3, qe6, qe7, Int.natCast_add, cst1]
  · (repeat' (first | simp (maxDischargeDepth := 8) only [go_sem, rr, reduceIte, reduceCtorEq, Nat.reduceEqDiff, Nat.reduceAdd, Nat.reduceMul, Nat.reduceSub, Nat.reduceBEq, Nat.reduceLeDiff, Int.reduceEq, Int.reduceLT, Int.reduceLE, Int.reduceGE, Int.reduceGT, Int.reduceBEq, Int.reduceBNe, Int.reduceToNat, Int.reduceNeg, Int.reduceSub, Int.reduceAdd, Int.reduceMul, partL_full, hsn] | (with_reducible refine qg6 ?_ ?_; focus (first | (simp (maxDischargeDepth := 8) only [bb, kk, partL_full, hsn]; done) | kernel_rfl)) | ((with_reducible first | refine qf4 ?_ ?_ | refine qf5 ?_ ?_ | refine qf6 ?_ ?_ | refine qf7 ?_ ?_ | refine qf8 ?_ ?_ | refine qf9 ?_ ?_ | refine qg ?_ ?_); focus (first | assumption | omega | (simp only [bz, partL_full, hsn]; omega))) | ((with_reducible first | refine qg0 ?_ ?_ | refine qg1 ?_ ?_ | refine qg2 ?_ ?_); focus (first | assumption | omega | (simp only [bz, partL_full, hsn]; omega))) | ((with_reducible first | refine g1_u8w ?_ ?_ | refine qg4 ?_ ?_); (focus ((repeat' (with_reducible apply And.intro)) <;> (first | assumption | omega | (simp only [bz, partL_full, hsn]; omega) | (simp (maxDischargeDepth := 8) only [bb, partL_full, hsn]; done)))); intro _) | ((with_reducible refine g1_64w ?_ ?_); (focus ((repeat' (with_reducible apply And.intro)) <;> (first | assumption | omega | (simp only [bz, partL_full, hsn]; omega) | (simp (maxDischargeDepth := 8) only [bb, partL_full, hsn]; done)))); intro _)))
theorem e39 (d : Nat) (e : Ent) : evFun E (d+1) 39 [.agg [vs e.nm, vi e.v, vi e.s, vi e.r], .agg [vs e.nm, vi e.v, vi e.s, vi e.r]] [] = some (vb true, []) := by
  refine evFun_body b39 ?_
  have h : (e.nm == e.nm) = true := by simp
  (repeat' (first | simp (maxDischargeDepth := 8) only [go_sem, rr, reduceIte, reduceCtorEq, Nat.reduceEqDiff, Nat.reduceAdd, Nat.reduceMul, Nat.reduceSub, Nat.reduceBEq, Nat.reduceLeDiff, Int.reduceEq, Int.reduceLT, Int.reduceLE, Int.reduceGE, Int.reduceGT, Int.reduceBEq, Int.reduceBNe, Int.reduceToNat, Int.reduceNeg, Int.reduceSub, Int.reduceAdd, Int.reduceMul, h, Tryd.f39] | (with_reducible refine qg6 ?_ ?_; focus (first | (simp (maxDischargeDepth := 8) only [bb, kk, h]; done) | kernel_rfl)) | ((with_reducible first | refine qf4 ?_ ?_ | refine qf5 ?_ ?_ | refine qf6 ?_ ?_ | refine qf7 ?_ ?_ | refine qf8 ?_ ?_ | refine qf9 ?_ ?_ | refine qg ?_ ?_); focus (first | assumption | omega | (simp only [bz, h]; omega))) | ((with_reducible first | refine qg0 ?_ ?_ | refine qg1 ?_ ?_ | refine qg2 ?_ ?_); focus (first | assumption | omega | (simp only [bz, h]; omega))) | ((with_reducible first | refine g1_u8w ?_ ?_ | refine qg4 ?_ ?_); (focus ((repeat' (with_reducible apply And.intro)) <;> (first | assumption | omega | (simp only [bz, h]; omega) | (simp (maxDischargeDepth := 8) only [bb, h]; done)))); intro _) | ((with_reducible refine g1_64w ?_ ?_); (focus ((repeat' (with_reducible apply And.intro)) <;> (first | assumption | omega | (simp only [bz, h]; omega) | (simp (maxDischargeDepth := 8) only [bb, h]; done)))); intro _)))
theorem e20 (d : Nat) (L : List Ent) (tg tg' : Tg) (c c' : Option Nat) (hl : L.length ≤ 549755813888) : evFun E (d+2) 20 [.sl tg 4 L.length c (flat encE L), .sl tg' 4 L.length c' (flat encE L)] [] = some (vb true, []) := by
  refine evFun_body b20 ?_
  (repeat' (first | simp (maxDischargeDepth := 8) only [go_sem, rr, reduceIte, reduceCtorEq, Nat.reduceEqDiff, Nat.reduceAdd, Nat.reduceMul, Nat.reduceSub, Nat.reduceBEq, Nat.reduceLeDiff, Int.reduceEq, Int.reduceLT, Int.reduceLE, Int.reduceGE, Int.reduceGT, Int.reduceBEq, Int.reduceBNe, Int.reduceToNat, Int.reduceNeg, Int.reduceSub, Int.reduceAdd, Int.reduceMul, Tryd.f20] | (with_reducible refine qg6 ?_ ?_; focus (first | (simp (maxDischargeDepth := 8) only [bb, kk]; done) | kernel_rfl)) | ((with_reducible first | refine qf4 ?_ ?_ | refine qf5 ?_ ?_ | refine qf6 ?_ ?_ | refine qf7 ?_ ?_ | refine qf8 ?_ ?_ | refine qf9 ?_ ?_ | refine qg ?_ ?_); focus (first | assumption | omega | (simp only [bz]; omega))) | ((with_reducible first | refine qg0 ?_ ?_ | refine qg1 ?_ ?_ | refine qg2 ?_ ?_); focus (first | assumption | omega | (simp only [bz]; omega))) | ((with_reducible first | refine g1_u8w ?_ ?_ | refine qg4 ?_ ?_); (focus ((repeat' (with_reducible apply And.intro)) <;> (first | assumption | omega | (simp only [bz]; omega) | (simp (maxDischargeDepth := 8) only [bb]; done)))); intro _) | ((with_reducible refine g1_64w ?_ ?_); (focus ((repeat' (with_reducible apply And.intro)) <;> (first | assumption | omega | (simp only [bz]; omega) | (simp (maxDischargeDepth := 8) only [bb]; done)))); intro _)))
  refine loop_go (fun i => {T := tp [(0, .sl tg 4 L.length c (flat encE L)), (1, .sl tg' 4 L.length c' (flat encE L)), (5, vi i)], H := hp [], nx := 0}) L.length ?_ (lt_LF hl) (fun i hi Kn hK => ?_) (fun Kn => ?_)
  · simp only [vv, ff, norm, Array.toList, List.map, Option.isSome_none, bne_self_eq_false, reduceIte, reduceCtorEq, Nat.reduceEqDiff, Nat.reduceAdd, Nat.reduceMul, Nat.reduceSub, Nat.reduceBEq, Nat.reduceLeDiff, Int.reduceEq, Int.reduceLT, Int.reduceLE, Int.reduceGE, Int.reduceGT, Int.reduceBEq, Int.reduceBNe, Int.reduceToNat, Int.reduceNeg, Int.reduceSub, Int.reduceAdd, Int.reduceMul, finish, qe8, resOf, resa, qe9, qf, qf0, keep, qf1, qf2, qf3, qe6, qe7, Int.natCast_zero]
  · have hg := fE_getR L hi
    (repeat' (first | simp (maxDischargeDepth := 8) only [go_sem, rr, reduceIte, reduceCtorEq, Nat.reduceEqDiff, Nat.reduceAdd, Nat.reduceMul, Nat.reduceSub, Nat.reduceBEq, Nat.reduceLeDiff, Int.reduceEq, Int.reduceLT, Int.reduceLE, Int.reduceGE, Int.reduceGT, Int.reduceBEq, Int.reduceBNe, Int.reduceToNat, Int.reduceNeg, Int.reduceSub, Int.reduceAdd, Int.reduceMul, hg, e39] | (with_reducible refine qg6 ?_ ?_; focus (first | (simp (maxDischargeDepth := 8) only [bb, kk, hg, e39]; done) | kernel_rfl)) | ((with_reducible first | refine qf4 ?_ ?_ | refine qf5 ?_ ?_ | refine qf6 ?_ ?_ | refine qf7 ?_ ?_ | refine qf8 ?_ ?_ | refine qf9 ?_ ?_ | refine qg ?_ ?_); focus (first | assumption | omega | (simp only [bz, hg, e39]; omega))) | ((with_reducible first | refine qg0 ?_ ?_ | refine qg1 ?_ ?_ | refine qg2 ?_ ?_); focus (first | assumption | omega | (simp only [bz, hg, e39]; omega))) | ((with_reducible first | refine g1_u8w ?_ ?_ | refine qg4 ?_ ?_); (focus ((repeat' (with_reducible apply And.intro)) <;> (first | assumption | omega | (simp only [bz, hg, e39]; omega) | (simp (maxDischargeDepth := 8) only [bb, hg, e39]; done)))); intro _) | ((with_reducible refine g1_64w ?_ ?_); (focus ((repeat' (with_reducible apply And.intro)) <;> (first | assumption | omega | (simp only [bz, hg, e39]; omega) | (simp (maxDischargeDepth := 8) only [bb, hg, e39]; done)))); intro _)))
    refine hK _ ?_
    simp only [vv, ff, norm, Array.toList, List.map, Option.isSome_none, bne_self_eq_false, reduceIte, reduceCtorEq, Nat.reduceEqDiff, Nat.reduceAdd, Nat.reduceMul, Nat.reduceSub, Nat.reduceBEq, Nat.reduceLeDiff, Int.reduceEq, Int.reduceLT, Int.reduceLE, Int.reduceGE, Int.reduceGT, Int.reduceBEq, Int.reduceBNe, Int.reduceToNat, Int.reduceNeg, Int.reduceSub, Int.reduceAdd, Int.reduceMul, finish, qe8, resOf, resa, qe9, qf, qf0, keep, qf1, qf2, qf3, qe6, qe7, Int.natCast_add, cst1]
  · (repeat' (first | simp (maxDischargeDepth := 8) only [go_sem, rr, reduceIte, reduceCtorEq, Nat.reduceEqDiff, Nat.reduceAdd, Nat.reduceMul, Nat.reduceSub, Nat.reduceBEq, Nat.reduceLeDiff, Int.reduceEq, Int.reduceLT, Int.reduceLE, Int.reduceGE, Int.reduceGT, Int.reduceBEq, Int.reduceBNe, Int.reduceToNat, Int.reduceNeg, Int.reduceSub, Int.reduceAdd, Int.reduceMul] | (with_reducible refine qg6 ?_ ?_; focus (first | (simp (maxDischargeDepth := 8) only [bb, kk]; done) | kernel_rfl)) | ((with_reducible first | refine qf4 ?_ ?_ | refine qf5 ?_ ?_ | refine qf6 ?_ ?_ | refine qf7 ?_ ?_ | refine qf8 ?_ ?_ | refine qf9 ?_ ?_ | refine qg ?_ ?_); focus (first | assumption | omega | (simp only [bz]; omega))) | ((with_reducible first | refine qg0 ?_ ?_ | refine qg1 ?_ ?_ | refine qg2 ?_ ?_); focus (first | assumption | omega | (simp only [bz]; omega))) | ((with_reducible first | refine g1_u8w ?_ ?_ | refine qg4 ?_ ?_); (focus ((repeat' (with_reducible apply And.intro)) <;> (first | assumption | omega | (simp only [bz]; omega) | (simp (maxDischargeDepth := 8) only [bb]; done)))); intro _) | ((with_reducible refine g1_64w ?_ ?_); (focus ((repeat' (with_reducible apply And.intro)) <;> (first | assumption | omega | (simp only [bz]; omega) | (simp (maxDischargeDepth := 8) only [bb]; done)))); intro _)))
abbrev shE : Sh := .st (.pair .str (.pair (.int .i64) (.pair (.int .i64) (.pair (.int .i64) .unit))))
theorem fits_ent {r : List AV} (h : Fits shE r) : ∃ e : Ent, r = encE e ∧ e.nm.length ≤ 9223372036854775807 := by
  obtain ⟨_, _, rfl, g0, q1⟩ := fits_pair (cs := r) h
  obtain ⟨s, rfl, hs⟩ := fits_str g0
  obtain ⟨_, _, rfl, g1, q2⟩ := fits_pair q1
  obtain ⟨x, rfl, _⟩ := fits_int g1
  obtain ⟨_, _, rfl, g2, q3⟩ := fits_pair q2
  obtain ⟨y, rfl, _⟩ := fits_int g2
  obtain ⟨_, _, rfl, g3, q4⟩ := fits_pair q3
  obtain ⟨z, rfl, _⟩ := fits_int g3
  obtain rfl := fits_unit q4
  have hm : maxLen ≤ 9223372036854775807 := by decide
  refine ⟨⟨s.data.toList, x, y, z⟩, ?_, ?_⟩
  · rw [sB_of s]; simp [sB_data]
  · rw [sB_of s, sB_size] at hs; show s.data.toList.length ≤ _; omega
theorem fits_ents : ∀ {rows : List (List AV)}, (∀ r, r ∈ rows → Fits shE r) → ∃ L : List Ent, L.length = rows.length ∧ rows.flatten = flat encE L ∧ ∀ e, e ∈ L → e.nm.length ≤ 9223372036854775807
  | [], _ => ⟨[], rfl, rfl, fun e h => by simp at h⟩
  | r :: rs, h => by
    obtain ⟨e, rfl, he⟩ := fits_ent (h r (by simp))
    obtain ⟨L, h1, h2, h3⟩ := fits_ents (rows := rs) fun r hr => h r (by simp [hr])
    exact ⟨e :: L, by simp [h1], by rw [List.flatten_cons, h2]; rfl, fun x hx => by
      rcases List.mem_cons.mp hx with q | q
      · rw [q]; exact he
      · exact h3 x q⟩
theorem names_of {L : List Ent} (h : ∀ e, e ∈ L → e.nm.length ≤ 9223372036854775807) : Names L := fun i => by
  by_cases hi : i < L.length
  · rw [eA_get hi]; exact h _ (List.getElem_mem _)
  · have : eA L i = e0 := by rw [eA, List.getD_eq_getElem?_getD, List.getElem?_eq_none (by omega)]; rfl
    rw [this]; simp [e0]
end Go.Proofs.YtghmmockgbiehaaDoor.VH.S
end

section
namespace Go.Proofs.YtghmmockgbiehaaDoor.VH.S
open Go.Proofs
set_option maxRecDepth 100000
set_option maxHeartbeats 8000000
set_option linter.unusedSimpArgs false

/- Searching a catalog. -/
def lb (L : List Ent) (t : List UInt8) : Nat := ((List.range L.length).takeWhile fun i => ltB (eA L i).nm t).length
def Sorted (L : List Ent) : Prop := ∀ a b, a < b → b < L.length → ltB (eA L a).nm (eA L b).nm = true
theorem sorted_of {L : List Ent} (h : catOK L = true) : Sorted L := by
  have hs : ∀ i, i < L.length → stOK L i = true := by
    simp only [catOK, Bool.and_eq_true, List.all_eq_true] at h
    exact fun i hi => h.1 i (List.mem_range.mpr hi)
  intro a b hab hb
  induction b with
  | zero => omega
  | succ b ih =>
    have h1 := hs (b + 1) hb
    simp only [stOK, Bool.and_eq_true, Bool.or_eq_true, decide_eq_true_eq, Nat.add_sub_cancel] at h1
    have h2 := h1.2.resolve_left (by omega)
    by_cases e : a = b
    · subst e; exact h2
    · exact ltB_trans (ih (by omega) (by omega)) h2
theorem lb_le (L : List Ent) (t : List UInt8) : lb L t ≤ L.length := by
  have := takeWhile_le (fun i => ltB (eA L i).nm t) (List.range L.length)
  simpa [lb] using this
theorem lb_lt {L : List Ent} {t : List UInt8} {i : Nat} (h : i < lb L t) : ltB (eA L i).nm t = true := by
  obtain ⟨h1, h2⟩ := takeWhile_lt (fun i => ltB (eA L i).nm t) (List.range L.length) i h
  simpa using h2
theorem lb_at {L : List Ent} {t : List UInt8} (h : lb L t < L.length) : ltB (eA L (lb L t)).nm t = false := by
  have := takeWhile_at (fun i => ltB (eA L i).nm t) (List.range L.length) (by rw [List.length_range]; exact h)
  simpa [lb] using this
theorem lb_ge {L : List Ent} (hs : Sorted L) {t : List UInt8} {i : Nat} (hi : i < L.length) (h : ltB (eA L i).nm t = true) : i < lb L t := by
  refine Classical.byContradiction fun hh => ?_
  have h1 := lb_at (t := t) (show lb L t < L.length by omega)
  by_cases e : lb L t = i
  · rw [e, h] at h1; simp at h1
  · have := ltB_trans (hs _ _ (show lb L t < i by omega) hi) h
    rw [h1] at this; simp at this
def hasE (L : List Ent) (t : List UInt8) : Bool := decide (lb L t < L.length) && ((eA L (lb L t)).nm == t)
theorem e53 (d : Nat) (a b : List UInt8) : evFun E (d+3) 53 [vs a, vs b] [] = some (vi (cmpS a b), []) := by
  have h1 : ∀ d, evFun E (d+2) 63 [vs a, vs b] [] = some (vi (cmpS a b), []) := fun d => by
    refine evFun_body b63 ?_
    (repeat' (first | simp (maxDischargeDepth := 8) only [go_sem, rr, reduceIte, reduceCtorEq, Nat.reduceEqDiff, Nat.reduceAdd, Nat.reduceMul, Nat.reduceSub, Nat.reduceBEq, Nat.reduceLeDiff, Int.reduceEq, Int.reduceLT, Int.reduceLE, Int.reduceGE, Int.reduceGT, Int.reduceBEq, Int.reduceBNe, Int.reduceToNat, Int.reduceNeg, Int.reduceSub, Int.reduceAdd, Int.reduceMul, ecmp, Tryd.f63] | (with_reducible refine qg6 ?_ ?_; focus (first | (simp (maxDischargeDepth := 8) only [bb, kk, ecmp]; done) | kernel_rfl)) | ((with_reducible first | refine qf4 ?_ ?_ | refine qf5 ?_ ?_ | refine qf6 ?_ ?_ | refine qf7 ?_ ?_ | refine qf8 ?_ ?_ | refine qf9 ?_ ?_ | refine qg ?_ ?_); focus (first | assumption | omega | (simp only [bz, ecmp]; omega))) | ((with_reducible first | refine qg0 ?_ ?_ | refine qg1 ?_ ?_ | refine qg2 ?_ ?_); focus (first | assumption | omega | (simp only [bz, ecmp]; omega))) | ((with_reducible first | refine g1_u8w ?_ ?_ | refine qg4 ?_ ?_); (focus ((repeat' (with_reducible apply And.intro)) <;> (first | assumption | omega | (simp only [bz, ecmp]; omega) | (simp (maxDischargeDepth := 8) only [bb, ecmp]; done)))); intro _)))
  refine evFun_body b53 ?_
  (repeat' (first | simp (maxDischargeDepth := 8) only [go_sem, rr, reduceIte, reduceCtorEq, Nat.reduceEqDiff, Nat.reduceAdd, Nat.reduceMul, Nat.reduceSub, Nat.reduceBEq, Nat.reduceLeDiff, Int.reduceEq, Int.reduceLT, Int.reduceLE, Int.reduceGE, Int.reduceGT, Int.reduceBEq, Int.reduceBNe, Int.reduceToNat, Int.reduceNeg, Int.reduceSub, Int.reduceAdd, Int.reduceMul, h1, Tryd.f53] | (with_reducible refine qg6 ?_ ?_; focus (first | (simp (maxDischargeDepth := 8) only [bb, kk, h1]; done) | kernel_rfl)) | ((with_reducible first | refine qf4 ?_ ?_ | refine qf5 ?_ ?_ | refine qf6 ?_ ?_ | refine qf7 ?_ ?_ | refine qf8 ?_ ?_ | refine qf9 ?_ ?_ | refine qg ?_ ?_); focus (first | assumption | omega | (simp only [bz, h1]; omega))) | ((with_reducible first | refine qg0 ?_ ?_ | refine qg1 ?_ ?_ | refine qg2 ?_ ?_); focus (first | assumption | omega | (simp only [bz, h1]; omega))) | ((with_reducible first | refine g1_u8w ?_ ?_ | refine qg4 ?_ ?_); (focus ((repeat' (with_reducible apply And.intro)) <;> (first | assumption | omega | (simp only [bz, h1]; omega) | (simp (maxDischargeDepth := 8) only [bb, h1]; done)))); intro _)))
theorem e52 (d : Nat) (e : Ent) (t : List UInt8) : evFun E (d+4) 52 [.agg [vs e.nm, vi e.v, vi e.s, vi e.r], vs t] [] = some (vi (cmpS e.nm t), []) := by
  refine evFun_body b52 ?_
  (repeat' (first | simp (maxDischargeDepth := 8) only [go_sem, rr, reduceIte, reduceCtorEq, Nat.reduceEqDiff, Nat.reduceAdd, Nat.reduceMul, Nat.reduceSub, Nat.reduceBEq, Nat.reduceLeDiff, Int.reduceEq, Int.reduceLT, Int.reduceLE, Int.reduceGE, Int.reduceGT, Int.reduceBEq, Int.reduceBNe, Int.reduceToNat, Int.reduceNeg, Int.reduceSub, Int.reduceAdd, Int.reduceMul, e53, Tryd.f52] | (with_reducible refine qg6 ?_ ?_; focus (first | (simp (maxDischargeDepth := 8) only [bb, kk, e53]; done) | kernel_rfl)) | ((with_reducible first | refine qf4 ?_ ?_ | refine qf5 ?_ ?_ | refine qf6 ?_ ?_ | refine qf7 ?_ ?_ | refine qf8 ?_ ?_ | refine qf9 ?_ ?_ | refine qg ?_ ?_); focus (first | assumption | omega | (simp only [bz, e53]; omega))) | ((with_reducible first | refine qg0 ?_ ?_ | refine qg1 ?_ ?_ | refine qg2 ?_ ?_); focus (first | assumption | omega | (simp only [bz, e53]; omega))) | ((with_reducible first | refine g1_u8w ?_ ?_ | refine qg4 ?_ ?_); (focus ((repeat' (with_reducible apply And.intro)) <;> (first | assumption | omega | (simp only [bz, e53]; omega) | (simp (maxDischargeDepth := 8) only [bb, e53]; done)))); intro _)))
theorem half (i j : Nat) (h : i + j < 9223372036854775808) : shrU ((i : Int) + j) 1 = ((i + j) / 2 : Nat) := by
  have : (2 : Int) ^ (min (1 : Int).toNat 64) = 2 := by decide
  rw [shrU, this, Int.fdiv_eq_ediv_of_nonneg _ (by decide)]; omega
theorem e51 (d : Nat) (L : List Ent) (t : List UInt8) (tg : Tg) (c : Option Nat) (hl : L.length ≤ 549755813888) (hs : Sorted L) : evFun E (d+5) 51 [.sl tg 4 L.length c (flat encE L), vs t, .fn 52 []] [] = some (.tup [vi (lb L t), vb (hasE L t)], []) := by
  refine evFun_body b51 ?_
  have hle := lb_le L t
  (repeat' (first | simp (maxDischargeDepth := 8) only [go_sem, rr, reduceIte, reduceCtorEq, Nat.reduceEqDiff, Nat.reduceAdd, Nat.reduceMul, Nat.reduceSub, Nat.reduceBEq, Nat.reduceLeDiff, Int.reduceEq, Int.reduceLT, Int.reduceLE, Int.reduceGE, Int.reduceGT, Int.reduceBEq, Int.reduceBNe, Int.reduceToNat, Int.reduceNeg, Int.reduceSub, Int.reduceAdd, Int.reduceMul, Tryd.f51] | (with_reducible refine qg6 ?_ ?_; focus (first | (simp (maxDischargeDepth := 8) only [bb, kk]; done) | kernel_rfl)) | ((with_reducible first | refine qf4 ?_ ?_ | refine qf5 ?_ ?_ | refine qf6 ?_ ?_ | refine qf7 ?_ ?_ | refine qf8 ?_ ?_ | refine qf9 ?_ ?_ | refine qg ?_ ?_); focus (first | assumption | omega | (simp only [bz]; omega))) | ((with_reducible first | refine qg0 ?_ ?_ | refine qg1 ?_ ?_ | refine qg2 ?_ ?_); focus (first | assumption | omega | (simp only [bz]; omega))) | ((with_reducible first | refine g1_u8w ?_ ?_ | refine qg4 ?_ ?_); (focus ((repeat' (with_reducible apply And.intro)) <;> (first | assumption | omega | (simp only [bz]; omega) | (simp (maxDischargeDepth := 8) only [bb]; done)))); intro _)))
  refine loop_wf (α := Nat × Nat) (fun a => {T := tp [(0, .sl tg 4 L.length c (flat encE L)), (1, vs t), (2, .fn 52 []), (8, vi L.length), (9, vi a.1), (10, vi a.2)], H := hp [], nx := 0}) (fun a => a.1 ≤ lb L t ∧ lb L t ≤ a.2 ∧ a.2 ≤ L.length) (fun a => a.2 - a.1) ?_ (0, L.length) ?_ ⟨Nat.zero_le _, hle, Nat.le_refl _⟩ (lt_LF (by simp; omega))
  · rintro ⟨i, j⟩ ⟨h1, h2, h3⟩ Kn hK
    simp only at h1 h2 h3
    by_cases hij : i < j
    · have hh : (i + j) / 2 < L.length := by omega
      have hg := fE_getR L hh
      have hhalf := half i j (by omega)
      cases hc : ltB (eA L ((i + j) / 2)).nm t with
      | true =>
        have hc' : decide (cmpS (eA L ((i + j) / 2)).nm t < 0) = true := by rw [cmpS_lt, hc]
        (have fz := ga4 hg hhalf hc' e52; repeat' (first | simp (maxDischargeDepth := 8) only [go_sem, rr, reduceIte, reduceCtorEq, Nat.reduceEqDiff, Nat.reduceAdd, Nat.reduceMul, Nat.reduceSub, Nat.reduceBEq, Nat.reduceLeDiff, Int.reduceEq, Int.reduceLT, Int.reduceLE, Int.reduceGE, Int.reduceGT, Int.reduceBEq, Int.reduceBNe, Int.reduceToNat, Int.reduceNeg, Int.reduceSub, Int.reduceAdd, Int.reduceMul, fz] | (with_reducible refine qg6 ?_ ?_; focus (first | (simp (maxDischargeDepth := 8) only [bb, kk, fz]; done) | kernel_rfl)) | ((with_reducible first | refine qf4 ?_ ?_ | refine qf5 ?_ ?_ | refine qf6 ?_ ?_ | refine qf7 ?_ ?_ | refine qf8 ?_ ?_ | refine qf9 ?_ ?_ | refine qg ?_ ?_); focus (first | assumption | omega | (simp only [bz, fz]; omega))) | ((with_reducible first | refine qg0 ?_ ?_ | refine qg1 ?_ ?_ | refine qg2 ?_ ?_); focus (first | assumption | omega | (simp only [bz, fz]; omega))) | ((with_reducible first | refine g1_u8w ?_ ?_ | refine qg4 ?_ ?_); (focus ((repeat' (with_reducible apply And.intro)) <;> (first | assumption | omega | (simp only [bz, fz]; omega) | (simp (maxDischargeDepth := 8) only [bb, fz]; done)))); intro _)))
        refine hK ((i + j) / 2 + 1, j) ⟨lb_ge hs hh hc, h2, h3⟩ (by simp only; omega) _ ?_
        simp only [vv, ff, norm, Array.toList, List.map, Option.isSome_none, bne_self_eq_false, reduceIte, reduceCtorEq, Nat.reduceEqDiff, Nat.reduceAdd, Nat.reduceMul, Nat.reduceSub, Nat.reduceBEq, Nat.reduceLeDiff, Int.reduceEq, Int.reduceLT, Int.reduceLE, Int.reduceGE, Int.reduceGT, Int.reduceBEq, Int.reduceBNe, Int.reduceToNat, Int.reduceNeg, Int.reduceSub, Int.reduceAdd, Int.reduceMul, finish, qe8, resOf, resa, qe9, qf, qf0, keep, qf1, qf2, qf3, qe6, qe7, Int.natCast_add, cst1]
      | false =>
        have hc' : decide (cmpS (eA L ((i + j) / 2)).nm t < 0) = false := by rw [cmpS_lt, hc]
        have h4 : lb L t ≤ (i + j) / 2 := by
          refine Classical.byContradiction fun hh2 => ?_
          have := lb_lt (L := L) (t := t) (show (i + j) / 2 < lb L t by omega)
          rw [hc] at this; simp at this
        (have fz := ga4 hg hhalf hc' e52; repeat' (first | simp (maxDischargeDepth := 8) only [go_sem, rr, reduceIte, reduceCtorEq, Nat.reduceEqDiff, Nat.reduceAdd, Nat.reduceMul, Nat.reduceSub, Nat.reduceBEq, Nat.reduceLeDiff, Int.reduceEq, Int.reduceLT, Int.reduceLE, Int.reduceGE, Int.reduceGT, Int.reduceBEq, Int.reduceBNe, Int.reduceToNat, Int.reduceNeg, Int.reduceSub, Int.reduceAdd, Int.reduceMul, fz] | (with_reducible refine qg6 ?_ ?_; focus (first | (simp (maxDischargeDepth := 8) only [bb, kk, fz]; done) | kernel_rfl)) | ((with_reducible first | refine qf4 ?_ ?_ | refine qf5 ?_ ?_ | refine qf6 ?_ ?_ | refine qf7 ?_ ?_ | refine qf8 ?_ ?_ | refine qf9 ?_ ?_ | refine qg ?_ ?_); focus (first | assumption | omega | (simp only [bz, fz]; omega))) | ((with_reducible first | refine qg0 ?_ ?_ | refine qg1 ?_ ?_ | refine qg2 ?_ ?_); focus (first | assumption | omega | (simp only [bz, fz]; omega))) | ((with_reducible first | refine g1_u8w ?_ ?_ | refine qg4 ?_ ?_); (focus ((repeat' (with_reducible apply And.intro)) <;> (first | assumption | omega | (simp only [bz, fz]; omega) | (simp (maxDischargeDepth := 8) only [bb, fz]; done)))); intro _)))
        refine hK (i, (i + j) / 2) ⟨h1, h4, by simp only; omega⟩ (by simp only; omega) _ ?_
        simp only [vv, ff, norm, Array.toList, List.map, Option.isSome_none, bne_self_eq_false, reduceIte, reduceCtorEq, Nat.reduceEqDiff, Nat.reduceAdd, Nat.reduceMul, Nat.reduceSub, Nat.reduceBEq, Nat.reduceLeDiff, Int.reduceEq, Int.reduceLT, Int.reduceLE, Int.reduceGE, Int.reduceGT, Int.reduceBEq, Int.reduceBNe, Int.reduceToNat, Int.reduceNeg, Int.reduceSub, Int.reduceAdd, Int.reduceMul, finish, qe8, resOf, resa, qe9, qf, qf0, keep, qf1, qf2, qf3, qe6, qe7]
    · have e1 : i = lb L t := by omega
      have e2 : j = lb L t := by omega
      subst e1
      by_cases hn : lb L t < L.length
      · have hg := fE_getR L hn
        have hr : hasE L t = ((eA L (lb L t)).nm == t) := by simp [hasE, hn]
        have hc := cmpS_eq (eA L (lb L t)).nm t
        (have fz := ga5 hg hr hc e2 e52; repeat' (first | simp (maxDischargeDepth := 8) only [go_sem, rr, reduceIte, reduceCtorEq, Nat.reduceEqDiff, Nat.reduceAdd, Nat.reduceMul, Nat.reduceSub, Nat.reduceBEq, Nat.reduceLeDiff, Int.reduceEq, Int.reduceLT, Int.reduceLE, Int.reduceGE, Int.reduceGT, Int.reduceBEq, Int.reduceBNe, Int.reduceToNat, Int.reduceNeg, Int.reduceSub, Int.reduceAdd, Int.reduceMul, fz] | (with_reducible refine qg6 ?_ ?_; focus (first | (simp (maxDischargeDepth := 8) only [bb, kk, fz]; done) | kernel_rfl)) | ((with_reducible first | refine qf4 ?_ ?_ | refine qf5 ?_ ?_ | refine qf6 ?_ ?_ | refine qf7 ?_ ?_ | refine qf8 ?_ ?_ | refine qf9 ?_ ?_ | refine qg ?_ ?_); focus (first | assumption | omega | (simp only [bz, fz]; omega))) | ((with_reducible first | refine qg0 ?_ ?_ | refine qg1 ?_ ?_ | refine qg2 ?_ ?_); focus (first | assumption | omega | (simp only [bz, fz]; omega))) | ((with_reducible first | refine g1_u8w ?_ ?_ | refine qg4 ?_ ?_); (focus ((repeat' (with_reducible apply And.intro)) <;> (first | assumption | omega | (simp only [bz, fz]; omega) | (simp (maxDischargeDepth := 8) only [bb, fz]; done)))); intro _)))
      · have hr : hasE L t = false := by simp [hasE, hn]
        (have fz := ga2 hr e2; repeat' (first | simp (maxDischargeDepth := 8) only [go_sem, rr, reduceIte, reduceCtorEq, Nat.reduceEqDiff, Nat.reduceAdd, Nat.reduceMul, Nat.reduceSub, Nat.reduceBEq, Nat.reduceLeDiff, Int.reduceEq, Int.reduceLT, Int.reduceLE, Int.reduceGE, Int.reduceGT, Int.reduceBEq, Int.reduceBNe, Int.reduceToNat, Int.reduceNeg, Int.reduceSub, Int.reduceAdd, Int.reduceMul, fz] | (with_reducible refine qg6 ?_ ?_; focus (first | (simp (maxDischargeDepth := 8) only [bb, kk, fz]; done) | kernel_rfl)) | ((with_reducible first | refine qf4 ?_ ?_ | refine qf5 ?_ ?_ | refine qf6 ?_ ?_ | refine qf7 ?_ ?_ | refine qf8 ?_ ?_ | refine qf9 ?_ ?_ | refine qg ?_ ?_); focus (first | assumption | omega | (simp only [bz, fz]; omega))) | ((with_reducible first | refine qg0 ?_ ?_ | refine qg1 ?_ ?_ | refine qg2 ?_ ?_); focus (first | assumption | omega | (simp only [bz, fz]; omega))) | ((with_reducible first | refine g1_u8w ?_ ?_ | refine qg4 ?_ ?_); (focus ((repeat' (with_reducible apply And.intro)) <;> (first | assumption | omega | (simp only [bz, fz]; omega) | (simp (maxDischargeDepth := 8) only [bb, fz]; done)))); intro _)))
  · simp only [vv, ff, norm, Array.toList, List.map, Option.isSome_none, bne_self_eq_false, reduceIte, reduceCtorEq, Nat.reduceEqDiff, Nat.reduceAdd, Nat.reduceMul, Nat.reduceSub, Nat.reduceBEq, Nat.reduceLeDiff, Int.reduceEq, Int.reduceLT, Int.reduceLE, Int.reduceGE, Int.reduceGT, Int.reduceBEq, Int.reduceBNe, Int.reduceToNat, Int.reduceNeg, Int.reduceSub, Int.reduceAdd, Int.reduceMul, finish, qe8, resOf, resa, qe9, qf, qf0, keep, qf1, qf2, qf3, qe6, qe7, Int.natCast_zero]
end Go.Proofs.YtghmmockgbiehaaDoor.VH.S
end

