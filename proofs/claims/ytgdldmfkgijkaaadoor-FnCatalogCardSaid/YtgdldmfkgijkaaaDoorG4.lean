/- Part of a proof about the given program: a verified evaluator, and what it tells of the functions (VhJS1, VhJFA, VhJFD, VhJFS, VhJFS2, VhJFM, VhJFX, VhJFQ, VhJFR, VhJFT, VhJFN, VhJFW, VhJFP, VhJFAt, VhJFDr, VhJFNa, VhJFNb, VhJFAk). Conditions: none beyond the hypotheses that each theorem states. -/
import Derived.Test.YtgdldmfkgijkaaaDoorG3
import Derived.Test.YtgdldmfkgijkaaaDoorProg
set_option linter.unusedSimpArgs false
set_option linter.unusedVariables false
set_option linter.defProp false
section
namespace Go.Proofs.YtgdldmfkgijkaaaDoor.VH.S
open Go.Proofs
set_option maxRecDepth 100000

def rows : List (TypeId × Row) := [(1, ⟨.other, 1, 8, [.nilFunc], false⟩),
  (2, ⟨.int .i64, 1, 8, [.int .i64 0], false⟩),
  (3, ⟨.int .i64, 1, 8, [.int .i64 0], false⟩),
  (4, ⟨.bool, 1, 1, [.bool false], false⟩),
  (5, ⟨.int .u8, 1, 1, [.int .u8 0], false⟩),
  (6, ⟨.int .u8, 1, 1, [.int .u8 0], false⟩),
  (7, ⟨.struct [(0, 2), (1, 3), (2, 4), (3, 6)], 4, 24, [.int .i64 0, .int .i64 0, .bool false, .int .u8 0], false⟩),
  (8, ⟨.struct [(0, 2), (1, 3), (2, 4), (3, 6)], 4, 24, [.int .i64 0, .int .i64 0, .bool false, .int .u8 0], false⟩),
  (9, ⟨.string, 1, 16, [.string ByteArray.empty], false⟩),
  (10, ⟨.string, 1, 16, [.string ByteArray.empty], false⟩),
  (11, ⟨.string, 1, 16, [.string ByteArray.empty], false⟩),
  (12, ⟨.int .u64, 1, 8, [.int .u64 0], false⟩),
  (13, ⟨.struct [(0, 9), (1, 12)], 2, 24, [.string ByteArray.empty, .int .u64 0], false⟩),
  (14, ⟨.struct [(0, 9), (1, 12)], 2, 24, [.string ByteArray.empty, .int .u64 0], false⟩),
  (15, ⟨.pointer 133, 1, 8, [.pointer none], false⟩),
  (16, ⟨.pointer 136, 1, 8, [.pointer none], false⟩),
  (17, ⟨.pointer 146, 1, 8, [.pointer none], false⟩),
  (18, ⟨.struct [(0, 17)], 1, 8, [.pointer none], false⟩),
  (19, ⟨.struct [(0, 17)], 1, 8, [.pointer none], false⟩),
  (21, ⟨.int .i32, 1, 4, [.int .i32 0], false⟩),
  (22, ⟨.slice 5, 1, 24, [.slice none 0 0], false⟩),
  (23, ⟨.other, 1, 8, [.nilFunc], false⟩),
  (24, ⟨.struct [(0, 3), (1, 9), (2, 3), (3, 22)], 4, 56, [.int .i64 0, .string ByteArray.empty, .int .i64 0, .slice none 0 0], false⟩),
  (25, ⟨.struct [(0, 3), (1, 9), (2, 3), (3, 22)], 4, 56, [.int .i64 0, .string ByteArray.empty, .int .i64 0, .slice none 0 0], false⟩),
  (26, ⟨.other, 1, 8, [.nilFunc], false⟩),
  (28, ⟨.other, 1, 8, [.nilFunc], false⟩),
  (30, ⟨.other, 1, 8, [.nilFunc], false⟩),
  (31, ⟨.other, 1, 8, [.nilFunc], false⟩),
  (32, ⟨.slice 3, 1, 24, [.slice none 0 0], false⟩),
  (33, ⟨.struct [(0, 3), (1, 3), (2, 22), (3, 3), (4, 3), (5, 32)], 6, 80, [.int .i64 0, .int .i64 0, .slice none 0 0, .int .i64 0, .int .i64 0, .slice none 0 0], false⟩),
  (34, ⟨.struct [(0, 3), (1, 3), (2, 22), (3, 3), (4, 3), (5, 32)], 6, 80, [.int .i64 0, .int .i64 0, .slice none 0 0, .int .i64 0, .int .i64 0, .slice none 0 0], false⟩),
  (35, ⟨.other, 1, 8, [.nilFunc], false⟩),
  (36, ⟨.other, 1, 8, [.nilFunc], false⟩),
  (38, ⟨.other, 1, 8, [.nilFunc], false⟩),
  (39, ⟨.other, 1, 8, [.nilFunc], false⟩),
  (40, ⟨.other, 1, 8, [.nilFunc], false⟩),
  (41, ⟨.other, 1, 8, [.nilFunc], false⟩),
  (42, ⟨.other, 1, 8, [.nilFunc], false⟩),
  (43, ⟨.slice 51, 1, 24, [.slice none 0 0], false⟩),
  (45, ⟨.other, 1, 8, [.nilFunc], false⟩),
  (46, ⟨.slice 9, 1, 24, [.slice none 0 0], false⟩),
  (48, ⟨.other, 1, 8, [.nilFunc], false⟩),
  (49, ⟨.other, 1, 8, [.nilFunc], false⟩),
  (50, ⟨.struct [(0, 9), (1, 3), (2, 3), (3, 3)], 4, 40, [.string ByteArray.empty, .int .i64 0, .int .i64 0, .int .i64 0], false⟩),
  (51, ⟨.struct [(0, 9), (1, 3), (2, 3), (3, 3)], 4, 40, [.string ByteArray.empty, .int .i64 0, .int .i64 0, .int .i64 0], true⟩),
  (53, ⟨.other, 1, 8, [.nilFunc], false⟩),
  (54, ⟨.other, 1, 8, [.nilFunc], false⟩),
  (55, ⟨.other, 1, 8, [.nilFunc], false⟩),
  (57, ⟨.other, 1, 8, [.nilFunc], false⟩),
  (58, ⟨.other, 1, 8, [.nilFunc], false⟩),
  (59, ⟨.other, 1, 8, [.nilFunc], false⟩),
  (60, ⟨.other, 1, 8, [.nilFunc], false⟩),
  (61, ⟨.other, 1, 8, [.nilFunc], false⟩),
  (62, ⟨.pointer 96, 1, 8, [.pointer none], false⟩),
  (63, ⟨.other, 1, 8, [.nilFunc], false⟩),
  (64, ⟨.other, 1, 8, [.nilFunc], false⟩),
  (65, ⟨.int .u64, 1, 8, [.int .u64 0], false⟩),
  (66, ⟨.other, 1, 8, [.nilFunc], false⟩),
  (67, ⟨.other, 1, 8, [.nilFunc], false⟩),
  (68, ⟨.other, 1, 8, [.nilFunc], false⟩),
  (69, ⟨.other, 1, 8, [.nilFunc], false⟩),
  (70, ⟨.other, 1, 8, [.nilFunc], false⟩),
  (71, ⟨.other, 1, 8, [.nilFunc], false⟩),
  (72, ⟨.other, 1, 8, [.nilFunc], false⟩),
  (73, ⟨.other, 1, 8, [.nilFunc], false⟩),
  (74, ⟨.other, 1, 8, [.nilFunc], false⟩),
  (75, ⟨.other, 1, 8, [.nilFunc], false⟩),
  (76, ⟨.other, 1, 8, [.nilFunc], false⟩),
  (77, ⟨.other, 1, 8, [.nilFunc], false⟩),
  (78, ⟨.other, 1, 8, [.nilFunc], false⟩),
  (79, ⟨.other, 1, 8, [.nilFunc], false⟩),
  (81, ⟨.other, 1, 8, [.nilFunc], false⟩),
  (82, ⟨.other, 1, 8, [.nilFunc], false⟩),
  (83, ⟨.other, 1, 8, [.nilFunc], false⟩),
  (84, ⟨.other, 1, 8, [.nilFunc], false⟩),
  (86, ⟨.other, 1, 8, [.nilFunc], false⟩),
  (87, ⟨.other, 1, 8, [.nilFunc], false⟩),
  (88, ⟨.other, 1, 8, [.nilFunc], false⟩),
  (89, ⟨.other, 1, 8, [.nilFunc], false⟩),
  (90, ⟨.other, 1, 8, [.nilFunc], false⟩),
  (91, ⟨.other, 1, 8, [.nilFunc], false⟩),
  (92, ⟨.other, 1, 8, [.nilFunc], false⟩),
  (93, ⟨.other, 1, 8, [.nilFunc], false⟩),
  (94, ⟨.other, 1, 8, [.nilFunc], false⟩),
  (95, ⟨.struct [(0, 22), (1, 3), (2, 3)], 3, 40, [.slice none 0 0, .int .i64 0, .int .i64 0], false⟩),
  (96, ⟨.struct [(0, 22), (1, 3), (2, 3)], 3, 40, [.slice none 0 0, .int .i64 0, .int .i64 0], false⟩),
  (97, ⟨.other, 1, 8, [.nilFunc], false⟩),
  (98, ⟨.other, 1, 8, [.nilFunc], false⟩),
  (99, ⟨.int .u64, 1, 8, [.int .u64 0], false⟩),
  (100, ⟨.other, 1, 8, [.nilFunc], false⟩),
  (101, ⟨.other, 1, 8, [.nilFunc], false⟩),
  (102, ⟨.other, 1, 8, [.nilFunc], false⟩),
  (103, ⟨.other, 1, 8, [.nilFunc], false⟩),
  (104, ⟨.other, 1, 8, [.nilFunc], false⟩),
  (105, ⟨.other, 1, 8, [.nilFunc], false⟩),
  (106, ⟨.other, 1, 8, [.nilFunc], false⟩),
  (107, ⟨.other, 1, 8, [.nilFunc], false⟩),
  (108, ⟨.slice 22, 1, 24, [.slice none 0 0], false⟩),
  (109, ⟨.other, 1, 8, [.nilFunc], false⟩),
  (110, ⟨.other, 1, 8, [.nilFunc], false⟩),
  (111, ⟨.other, 1, 8, [.nilFunc], false⟩),
  (112, ⟨.array 256 4, 256, 256, List.replicate 256 (.bool false), false⟩),
  (113, ⟨.array 256 4, 256, 256, List.replicate 256 (.bool false), false⟩),
  (115, ⟨.other, 1, 8, [.nilFunc], false⟩),
  (116, ⟨.other, 1, 8, [.nilFunc], false⟩),
  (117, ⟨.pointer 113, 1, 8, [.pointer none], false⟩),
  (118, ⟨.other, 1, 8, [.nilFunc], false⟩),
  (119, ⟨.other, 1, 8, [.nilFunc], false⟩),
  (121, ⟨.other, 1, 8, [.nilFunc], false⟩),
  (122, ⟨.other, 1, 8, [.nilFunc], false⟩),
  (123, ⟨.other, 1, 8, [.nilFunc], false⟩),
  (124, ⟨.array 256 5, 256, 256, List.replicate 256 (.int .u8 0), false⟩),
  (125, ⟨.struct [(0, 5), (1, 5)], 2, 2, [.int .u8 0, .int .u8 0], false⟩),
  (126, ⟨.struct [(0, 5), (1, 5)], 2, 2, [.int .u8 0, .int .u8 0], false⟩),
  (127, ⟨.array 16 126, 32, 32, [.int .u8 0, .int .u8 0, .int .u8 0, .int .u8 0, .int .u8 0, .int .u8 0, .int .u8 0, .int .u8 0, .int .u8 0, .int .u8 0, .int .u8 0, .int .u8 0, .int .u8 0, .int .u8 0, .int .u8 0, .int .u8 0, .int .u8 0, .int .u8 0, .int .u8 0, .int .u8 0, .int .u8 0, .int .u8 0, .int .u8 0, .int .u8 0, .int .u8 0, .int .u8 0, .int .u8 0, .int .u8 0, .int .u8 0, .int .u8 0, .int .u8 0, .int .u8 0], false⟩),
  (128, ⟨.other, 1, 8, [.nilFunc], false⟩),
  (129, ⟨.other, 1, 8, [.nilFunc], false⟩),
  (130, ⟨.other, 1, 8, [.nilFunc], false⟩),
  (131, ⟨.other, 1, 8, [.nilFunc], false⟩),
  (132, ⟨.struct [(0, 17), (1, 17), (2, 17), (3, 9)], 4, 40, [.pointer none, .pointer none, .pointer none, .string ByteArray.empty], false⟩),
  (133, ⟨.struct [(0, 17), (1, 17), (2, 17), (3, 9)], 4, 40, [.pointer none, .pointer none, .pointer none, .string ByteArray.empty], false⟩),
  (137, ⟨.other, 1, 8, [.nilFunc], false⟩),
  (138, ⟨.int .u32, 1, 4, [.int .u32 0], false⟩),
  (139, ⟨.int .u8, 1, 1, [.int .u8 0], false⟩),
  (140, ⟨.int .u8, 1, 1, [.int .u8 0], false⟩),
  (141, ⟨.other, 1, 8, [.nilFunc], false⟩),
  (142, ⟨.pointer 5, 1, 8, [.pointer none], false⟩),
  (143, ⟨.int .i32, 1, 4, [.int .i32 0], false⟩),
  (144, ⟨.int .i32, 1, 4, [.int .i32 0], false⟩),
  (145, ⟨.struct [(0, 12), (1, 12), (2, 138), (3, 139), (4, 5), (5, 5), (6, 140), (7, 141), (8, 142), (9, 143), (10, 144)], 11, 48, [.int .u64 0, .int .u64 0, .int .u32 0, .int .u8 0, .int .u8 0, .int .u8 0, .int .u8 0, .nilFunc, .pointer none, .int .i32 0, .int .i32 0], false⟩),
  (146, ⟨.struct [(0, 12), (1, 12), (2, 138), (3, 139), (4, 5), (5, 5), (6, 140), (7, 141), (8, 142), (9, 143), (10, 144)], 11, 48, [.int .u64 0, .int .u64 0, .int .u32 0, .int .u8 0, .int .u8 0, .int .u8 0, .int .u8 0, .nilFunc, .pointer none, .int .i32 0, .int .i32 0], false⟩)]
noncomputable def funs : List (FuncId × Func) := [(2, Tryd.f2), (3, Tryd.f3), (4, Tryd.f4), (5, Tryd.f5), (6, Tryd.f6), (7, Tryd.f7), (8, Tryd.f8), (9, Tryd.f9), (10, Tryd.f10), (11, Tryd.f11), (12, Tryd.f12), (13, Tryd.f13), (14, Tryd.f14), (15, Tryd.f15), (16, Tryd.f16), (17, Tryd.f17), (18, Tryd.f18), (19, Tryd.f19), (20, Tryd.f20), (21, Tryd.f21), (22, Tryd.f22), (23, Tryd.f23), (24, Tryd.f24), (25, Tryd.f25), (26, Tryd.f26), (27, Tryd.f27), (28, Tryd.f28), (29, Tryd.f29), (30, Tryd.f30), (31, Tryd.f31), (32, Tryd.f32), (33, Tryd.f33), (34, Tryd.f34), (35, Tryd.f35), (36, Tryd.f36), (37, Tryd.f37), (38, Tryd.f38), (39, Tryd.f39), (40, Tryd.f40), (41, Tryd.f41), (42, Tryd.f42), (43, Tryd.f43), (44, Tryd.f44), (45, Tryd.f45), (46, Tryd.f46), (47, Tryd.f47), (48, Tryd.f48), (49, Tryd.f49), (50, Tryd.f50), (51, Tryd.f51), (52, Tryd.f52), (53, Tryd.f53), (54, Tryd.f54), (55, Tryd.f55), (56, Tryd.f56), (57, Tryd.f57), (58, Tryd.f58), (59, Tryd.f59), (60, Tryd.f60), (61, Tryd.f61), (62, Tryd.f62), (63, Tryd.f63), (64, Tryd.f64), (65, Tryd.f65), (66, Tryd.f66), (67, Tryd.f67), (68, Tryd.f68), (69, Tryd.f69), (70, Tryd.f70), (71, Tryd.f71), (72, Tryd.f72), (73, Tryd.f73), (74, Tryd.f74), (75, Tryd.f75), (76, Tryd.f76), (77, Tryd.f77), (78, Tryd.f78), (79, Tryd.f79), (80, Tryd.f80), (81, Tryd.f81), (82, Tryd.f82), (83, Tryd.f83), (84, Tryd.f84), (85, Tryd.f85), (86, Tryd.f86), (87, Tryd.f87), (89, Tryd.f89), (90, Tryd.f90), (91, Tryd.f91), (92, Tryd.f92), (93, Tryd.f93), (94, Tryd.f94), (95, Tryd.f95), (96, Tryd.f96), (97, Tryd.f97), (98, Tryd.f98), (99, Tryd.f99), (100, Tryd.f100), (102, Tryd.f102), (103, Tryd.f103), (104, Tryd.f104), (105, Tryd.f105), (106, Tryd.f106), (107, Tryd.f107), (109, Tryd.f109), (110, Tryd.f110), (111, Tryd.f111), (112, Tryd.f112), (114, Tryd.f114), (136, Tryd.f136)]
def lookN {α : Type} (d : α) : List (Nat × α) → Nat → α
  | [], _ => d
  | (a, x) :: r, n => if n = a then x else lookN d r n
def lends : List (Nat × List Bool) := [(28, [true]), (33, [true]), (43, [true]), (50, [true, true]), (51, [true, false]), (53, [true, false]), (55, [true]), (58, [true]), (64, [true]), (66, [true]), (69, [true]), (70, [true]), (72, [true]), (73, [true]), (74, [true, false]), (75, [true, false]), (76, [true, false]), (88, [false, true]), (97, [false, true]), (98, [false, true]), (103, [true, false])]
def lives : List (Nat × List (Nat × List Nat)) := [(3, [(14, [0, 8, 9, 10, 11, 13])]),
  (4, [(11, [3, 4, 5, 7, 9, 11]), (18, [3, 4, 7, 16])]),
  (5, [(9, [0, 3, 6, 8])]),
  (15, [(4, [1, 3])]),
  (21, [(5, [4, 5, 6, 7])]),
  (22, [(5, [0, 1, 7, 21, 22, 23])]),
  (23, [(2, [0, 3])]),
  (24, [(2, [0, 5, 6, 7])]),
  (28, [(5, [0, 4, 5, 23, 24])]),
  (31, [(5, [3, 10, 11, 12])]),
  (34, [(3, [0, 3, 4])]),
  (36, [(3, [3, 6, 7, 8])]),
  (38, [(2, [0, 3])]),
  (43, [(4, [0, 2, 3, 4])]),
  (44, [(5, [1, 3, 31, 32, 33])]),
  (45, [(4, [0, 2, 4, 5, 6, 7, 25, 26])]),
  (49, [(9, [1, 4, 5])]),
  (57, [(11, [3, 6, 8])]),
  (61, [(3, [1, 5, 11, 12, 13])]),
  (64, [(3, [0, 3, 4])]),
  (65, [(3, [3, 10, 11, 12])]),
  (71, [(5, [0, 4, 5])]),
  (74, [(3, [0, 5, 6])]),
  (77, [(3, [0, 3, 9, 10, 11]), (11, [6, 25, 26, 27])]),
  (80, [(2, [0, 1, 7, 8])]),
  (81, [(5, [0, 3, 4])]),
  (82, [(2, [0, 1, 5])]),
  (83, [(3, [0, 1, 2, 8, 9, 10])]),
  (87, [(3, [0, 5, 6])]),
  (94, [(1, [0, 1])]),
  (95, [(1, [0, 1])]),
  (96, [(2, [0, 2, 4])]),
  (97, [(1, [0, 1])]),
  (98, [(1, [0, 1])]),
  (99, [(1, [0, 1])]),
  (100, [(1, [0, 1])]),
  (102, [(1, [0, 2, 3])]),
  (106, [(10, [0, 4, 5, 6])])]
def wks : List (Nat × Option Nat) := [(8, some 1), (9, some 1), (10, some 1), (11, some 1), (13, some 1), (14, some 1), (15, some 1), (16, some 1), (19, some 1), (22, some 4), (37, some 1), (49, some 1), (54, some 1), (68, some 4)]
def boxs : List (Nat × Bool) := []
def notes : List (Nat × Bool) := [(45, true)]
def deeps : List (Nat × Bool) := []
def inss : List (Nat × Option Nat) := [(69, some 4)]
def cutfs : List (Nat × Bool) := [(3, true), (5, true)]
def cuts : List (Nat × List (Nat × Option (List Nat))) := [(3, [(8, some [0]), (18, some [0, 8, 9, 10]), (24, some [0, 8, 9, 10]), (30, some [0, 8, 9, 10])]), (5, [(6, some [0, 3, 4, 5, 6, 7]), (8, some [0, 3, 6]), (14, some [0, 3]), (19, some [0, 3, 12, 13]), (22, some [0])])]
noncomputable def E : Env where
  hand := (hand2 (handC 101) (handO 88 4))
  row := rowsOf rows
  lend := lookN [] lends
  live := fun f r => lookN [] (lookN [] lives f) r
  body := bodiesOf funs
  wk := lookN none wks
  boxf := lookN false boxs
  notef := lookN false notes
  deep := lookN false deeps
  insf := lookN none inss
  cutf := lookN false cutfs
  cut := fun f r => lookN none (lookN [] cuts f) r

theorem r1 : E.row 1 = some ⟨.other, 1, 8, [.nilFunc], false⟩ := rfl
theorem r2 : E.row 2 = some ⟨.int .i64, 1, 8, [.int .i64 0], false⟩ := rfl
theorem r3 : E.row 3 = some ⟨.int .i64, 1, 8, [.int .i64 0], false⟩ := rfl
theorem r4 : E.row 4 = some ⟨.bool, 1, 1, [.bool false], false⟩ := rfl
theorem r5 : E.row 5 = some ⟨.int .u8, 1, 1, [.int .u8 0], false⟩ := rfl
theorem r6 : E.row 6 = some ⟨.int .u8, 1, 1, [.int .u8 0], false⟩ := rfl
theorem r7 : E.row 7 = some ⟨.struct [(0, 2), (1, 3), (2, 4), (3, 6)], 4, 24, [.int .i64 0, .int .i64 0, .bool false, .int .u8 0], false⟩ := rfl
theorem r8 : E.row 8 = some ⟨.struct [(0, 2), (1, 3), (2, 4), (3, 6)], 4, 24, [.int .i64 0, .int .i64 0, .bool false, .int .u8 0], false⟩ := rfl
theorem r9 : E.row 9 = some ⟨.string, 1, 16, [.string ByteArray.empty], false⟩ := rfl
theorem r10 : E.row 10 = some ⟨.string, 1, 16, [.string ByteArray.empty], false⟩ := rfl
theorem r11 : E.row 11 = some ⟨.string, 1, 16, [.string ByteArray.empty], false⟩ := rfl
theorem r12 : E.row 12 = some ⟨.int .u64, 1, 8, [.int .u64 0], false⟩ := rfl
theorem r13 : E.row 13 = some ⟨.struct [(0, 9), (1, 12)], 2, 24, [.string ByteArray.empty, .int .u64 0], false⟩ := rfl
theorem r14 : E.row 14 = some ⟨.struct [(0, 9), (1, 12)], 2, 24, [.string ByteArray.empty, .int .u64 0], false⟩ := rfl
theorem r15 : E.row 15 = some ⟨.pointer 133, 1, 8, [.pointer none], false⟩ := rfl
theorem r16 : E.row 16 = some ⟨.pointer 136, 1, 8, [.pointer none], false⟩ := rfl
theorem r17 : E.row 17 = some ⟨.pointer 146, 1, 8, [.pointer none], false⟩ := rfl
theorem r18 : E.row 18 = some ⟨.struct [(0, 17)], 1, 8, [.pointer none], false⟩ := rfl
theorem r19 : E.row 19 = some ⟨.struct [(0, 17)], 1, 8, [.pointer none], false⟩ := rfl
theorem r21 : E.row 21 = some ⟨.int .i32, 1, 4, [.int .i32 0], false⟩ := rfl
theorem r22 : E.row 22 = some ⟨.slice 5, 1, 24, [.slice none 0 0], false⟩ := rfl
theorem r23 : E.row 23 = some ⟨.other, 1, 8, [.nilFunc], false⟩ := rfl
theorem r24 : E.row 24 = some ⟨.struct [(0, 3), (1, 9), (2, 3), (3, 22)], 4, 56, [.int .i64 0, .string ByteArray.empty, .int .i64 0, .slice none 0 0], false⟩ := rfl
theorem r25 : E.row 25 = some ⟨.struct [(0, 3), (1, 9), (2, 3), (3, 22)], 4, 56, [.int .i64 0, .string ByteArray.empty, .int .i64 0, .slice none 0 0], false⟩ := rfl
theorem r26 : E.row 26 = some ⟨.other, 1, 8, [.nilFunc], false⟩ := rfl
theorem r28 : E.row 28 = some ⟨.other, 1, 8, [.nilFunc], false⟩ := rfl
theorem r30 : E.row 30 = some ⟨.other, 1, 8, [.nilFunc], false⟩ := rfl
theorem r31 : E.row 31 = some ⟨.other, 1, 8, [.nilFunc], false⟩ := rfl
theorem r32 : E.row 32 = some ⟨.slice 3, 1, 24, [.slice none 0 0], false⟩ := rfl
theorem r33 : E.row 33 = some ⟨.struct [(0, 3), (1, 3), (2, 22), (3, 3), (4, 3), (5, 32)], 6, 80, [.int .i64 0, .int .i64 0, .slice none 0 0, .int .i64 0, .int .i64 0, .slice none 0 0], false⟩ := rfl
theorem r34 : E.row 34 = some ⟨.struct [(0, 3), (1, 3), (2, 22), (3, 3), (4, 3), (5, 32)], 6, 80, [.int .i64 0, .int .i64 0, .slice none 0 0, .int .i64 0, .int .i64 0, .slice none 0 0], false⟩ := rfl
theorem r35 : E.row 35 = some ⟨.other, 1, 8, [.nilFunc], false⟩ := rfl
theorem r36 : E.row 36 = some ⟨.other, 1, 8, [.nilFunc], false⟩ := rfl
theorem r38 : E.row 38 = some ⟨.other, 1, 8, [.nilFunc], false⟩ := rfl
theorem r39 : E.row 39 = some ⟨.other, 1, 8, [.nilFunc], false⟩ := rfl
theorem r40 : E.row 40 = some ⟨.other, 1, 8, [.nilFunc], false⟩ := rfl
theorem r41 : E.row 41 = some ⟨.other, 1, 8, [.nilFunc], false⟩ := rfl
theorem r42 : E.row 42 = some ⟨.other, 1, 8, [.nilFunc], false⟩ := rfl
theorem r43 : E.row 43 = some ⟨.slice 51, 1, 24, [.slice none 0 0], false⟩ := rfl
theorem r45 : E.row 45 = some ⟨.other, 1, 8, [.nilFunc], false⟩ := rfl
theorem r46 : E.row 46 = some ⟨.slice 9, 1, 24, [.slice none 0 0], false⟩ := rfl
theorem r48 : E.row 48 = some ⟨.other, 1, 8, [.nilFunc], false⟩ := rfl
theorem r49 : E.row 49 = some ⟨.other, 1, 8, [.nilFunc], false⟩ := rfl
theorem r50 : E.row 50 = some ⟨.struct [(0, 9), (1, 3), (2, 3), (3, 3)], 4, 40, [.string ByteArray.empty, .int .i64 0, .int .i64 0, .int .i64 0], false⟩ := rfl
theorem r51 : E.row 51 = some ⟨.struct [(0, 9), (1, 3), (2, 3), (3, 3)], 4, 40, [.string ByteArray.empty, .int .i64 0, .int .i64 0, .int .i64 0], true⟩ := rfl
theorem r53 : E.row 53 = some ⟨.other, 1, 8, [.nilFunc], false⟩ := rfl
theorem r54 : E.row 54 = some ⟨.other, 1, 8, [.nilFunc], false⟩ := rfl
theorem r55 : E.row 55 = some ⟨.other, 1, 8, [.nilFunc], false⟩ := rfl
theorem r57 : E.row 57 = some ⟨.other, 1, 8, [.nilFunc], false⟩ := rfl
theorem r58 : E.row 58 = some ⟨.other, 1, 8, [.nilFunc], false⟩ := rfl
theorem r59 : E.row 59 = some ⟨.other, 1, 8, [.nilFunc], false⟩ := rfl
theorem r60 : E.row 60 = some ⟨.other, 1, 8, [.nilFunc], false⟩ := rfl
theorem r61 : E.row 61 = some ⟨.other, 1, 8, [.nilFunc], false⟩ := rfl
theorem r62 : E.row 62 = some ⟨.pointer 96, 1, 8, [.pointer none], false⟩ := rfl
theorem r63 : E.row 63 = some ⟨.other, 1, 8, [.nilFunc], false⟩ := rfl
theorem r64 : E.row 64 = some ⟨.other, 1, 8, [.nilFunc], false⟩ := rfl
theorem r65 : E.row 65 = some ⟨.int .u64, 1, 8, [.int .u64 0], false⟩ := rfl
theorem r66 : E.row 66 = some ⟨.other, 1, 8, [.nilFunc], false⟩ := rfl
theorem r67 : E.row 67 = some ⟨.other, 1, 8, [.nilFunc], false⟩ := rfl
theorem r68 : E.row 68 = some ⟨.other, 1, 8, [.nilFunc], false⟩ := rfl
theorem r69 : E.row 69 = some ⟨.other, 1, 8, [.nilFunc], false⟩ := rfl
theorem r70 : E.row 70 = some ⟨.other, 1, 8, [.nilFunc], false⟩ := rfl
theorem r71 : E.row 71 = some ⟨.other, 1, 8, [.nilFunc], false⟩ := rfl
theorem r72 : E.row 72 = some ⟨.other, 1, 8, [.nilFunc], false⟩ := rfl
theorem r73 : E.row 73 = some ⟨.other, 1, 8, [.nilFunc], false⟩ := rfl
theorem r74 : E.row 74 = some ⟨.other, 1, 8, [.nilFunc], false⟩ := rfl
theorem r75 : E.row 75 = some ⟨.other, 1, 8, [.nilFunc], false⟩ := rfl
theorem r76 : E.row 76 = some ⟨.other, 1, 8, [.nilFunc], false⟩ := rfl
theorem r77 : E.row 77 = some ⟨.other, 1, 8, [.nilFunc], false⟩ := rfl
theorem r78 : E.row 78 = some ⟨.other, 1, 8, [.nilFunc], false⟩ := rfl
theorem r79 : E.row 79 = some ⟨.other, 1, 8, [.nilFunc], false⟩ := rfl
theorem r81 : E.row 81 = some ⟨.other, 1, 8, [.nilFunc], false⟩ := rfl
theorem r82 : E.row 82 = some ⟨.other, 1, 8, [.nilFunc], false⟩ := rfl
theorem r83 : E.row 83 = some ⟨.other, 1, 8, [.nilFunc], false⟩ := rfl
theorem r84 : E.row 84 = some ⟨.other, 1, 8, [.nilFunc], false⟩ := rfl
theorem r86 : E.row 86 = some ⟨.other, 1, 8, [.nilFunc], false⟩ := rfl
theorem r87 : E.row 87 = some ⟨.other, 1, 8, [.nilFunc], false⟩ := rfl
theorem r88 : E.row 88 = some ⟨.other, 1, 8, [.nilFunc], false⟩ := rfl
theorem r89 : E.row 89 = some ⟨.other, 1, 8, [.nilFunc], false⟩ := rfl
theorem r90 : E.row 90 = some ⟨.other, 1, 8, [.nilFunc], false⟩ := rfl
theorem r91 : E.row 91 = some ⟨.other, 1, 8, [.nilFunc], false⟩ := rfl
theorem r92 : E.row 92 = some ⟨.other, 1, 8, [.nilFunc], false⟩ := rfl
theorem r93 : E.row 93 = some ⟨.other, 1, 8, [.nilFunc], false⟩ := rfl
theorem r94 : E.row 94 = some ⟨.other, 1, 8, [.nilFunc], false⟩ := rfl
theorem r95 : E.row 95 = some ⟨.struct [(0, 22), (1, 3), (2, 3)], 3, 40, [.slice none 0 0, .int .i64 0, .int .i64 0], false⟩ := rfl
theorem r96 : E.row 96 = some ⟨.struct [(0, 22), (1, 3), (2, 3)], 3, 40, [.slice none 0 0, .int .i64 0, .int .i64 0], false⟩ := rfl
theorem r97 : E.row 97 = some ⟨.other, 1, 8, [.nilFunc], false⟩ := rfl
theorem r98 : E.row 98 = some ⟨.other, 1, 8, [.nilFunc], false⟩ := rfl
theorem r99 : E.row 99 = some ⟨.int .u64, 1, 8, [.int .u64 0], false⟩ := rfl
theorem r100 : E.row 100 = some ⟨.other, 1, 8, [.nilFunc], false⟩ := rfl
theorem r101 : E.row 101 = some ⟨.other, 1, 8, [.nilFunc], false⟩ := rfl
theorem r102 : E.row 102 = some ⟨.other, 1, 8, [.nilFunc], false⟩ := rfl
theorem r103 : E.row 103 = some ⟨.other, 1, 8, [.nilFunc], false⟩ := rfl
theorem r104 : E.row 104 = some ⟨.other, 1, 8, [.nilFunc], false⟩ := rfl
theorem r105 : E.row 105 = some ⟨.other, 1, 8, [.nilFunc], false⟩ := rfl
theorem r106 : E.row 106 = some ⟨.other, 1, 8, [.nilFunc], false⟩ := rfl
theorem r107 : E.row 107 = some ⟨.other, 1, 8, [.nilFunc], false⟩ := rfl
theorem r108 : E.row 108 = some ⟨.slice 22, 1, 24, [.slice none 0 0], false⟩ := rfl
theorem r109 : E.row 109 = some ⟨.other, 1, 8, [.nilFunc], false⟩ := rfl
theorem r110 : E.row 110 = some ⟨.other, 1, 8, [.nilFunc], false⟩ := rfl
theorem r111 : E.row 111 = some ⟨.other, 1, 8, [.nilFunc], false⟩ := rfl
theorem r112 : E.row 112 = some ⟨.array 256 4, 256, 256, List.replicate 256 (.bool false), false⟩ := rfl
theorem r113 : E.row 113 = some ⟨.array 256 4, 256, 256, List.replicate 256 (.bool false), false⟩ := rfl
theorem r115 : E.row 115 = some ⟨.other, 1, 8, [.nilFunc], false⟩ := rfl
theorem r116 : E.row 116 = some ⟨.other, 1, 8, [.nilFunc], false⟩ := rfl
theorem r117 : E.row 117 = some ⟨.pointer 113, 1, 8, [.pointer none], false⟩ := rfl
theorem r118 : E.row 118 = some ⟨.other, 1, 8, [.nilFunc], false⟩ := rfl
theorem r119 : E.row 119 = some ⟨.other, 1, 8, [.nilFunc], false⟩ := rfl
theorem r121 : E.row 121 = some ⟨.other, 1, 8, [.nilFunc], false⟩ := rfl
theorem r122 : E.row 122 = some ⟨.other, 1, 8, [.nilFunc], false⟩ := rfl
theorem r123 : E.row 123 = some ⟨.other, 1, 8, [.nilFunc], false⟩ := rfl
theorem r124 : E.row 124 = some ⟨.array 256 5, 256, 256, List.replicate 256 (.int .u8 0), false⟩ := rfl
theorem r125 : E.row 125 = some ⟨.struct [(0, 5), (1, 5)], 2, 2, [.int .u8 0, .int .u8 0], false⟩ := rfl
theorem r126 : E.row 126 = some ⟨.struct [(0, 5), (1, 5)], 2, 2, [.int .u8 0, .int .u8 0], false⟩ := rfl
theorem r127 : E.row 127 = some ⟨.array 16 126, 32, 32, [.int .u8 0, .int .u8 0, .int .u8 0, .int .u8 0, .int .u8 0, .int .u8 0, .int .u8 0, .int .u8 0, .int .u8 0, .int .u8 0, .int .u8 0, .int .u8 0, .int .u8 0, .int .u8 0, .int .u8 0, .int .u8 0, .int .u8 0, .int .u8 0, .int .u8 0, .int .u8 0, .int .u8 0, .int .u8 0, .int .u8 0, .int .u8 0, .int .u8 0, .int .u8 0, .int .u8 0, .int .u8 0, .int .u8 0, .int .u8 0, .int .u8 0, .int .u8 0], false⟩ := rfl
theorem r128 : E.row 128 = some ⟨.other, 1, 8, [.nilFunc], false⟩ := rfl
theorem r129 : E.row 129 = some ⟨.other, 1, 8, [.nilFunc], false⟩ := rfl
theorem r130 : E.row 130 = some ⟨.other, 1, 8, [.nilFunc], false⟩ := rfl
theorem r131 : E.row 131 = some ⟨.other, 1, 8, [.nilFunc], false⟩ := rfl
theorem r132 : E.row 132 = some ⟨.struct [(0, 17), (1, 17), (2, 17), (3, 9)], 4, 40, [.pointer none, .pointer none, .pointer none, .string ByteArray.empty], false⟩ := rfl
theorem r133 : E.row 133 = some ⟨.struct [(0, 17), (1, 17), (2, 17), (3, 9)], 4, 40, [.pointer none, .pointer none, .pointer none, .string ByteArray.empty], false⟩ := rfl
theorem r137 : E.row 137 = some ⟨.other, 1, 8, [.nilFunc], false⟩ := rfl
theorem r138 : E.row 138 = some ⟨.int .u32, 1, 4, [.int .u32 0], false⟩ := rfl
theorem r139 : E.row 139 = some ⟨.int .u8, 1, 1, [.int .u8 0], false⟩ := rfl
theorem r140 : E.row 140 = some ⟨.int .u8, 1, 1, [.int .u8 0], false⟩ := rfl
theorem r141 : E.row 141 = some ⟨.other, 1, 8, [.nilFunc], false⟩ := rfl
theorem r142 : E.row 142 = some ⟨.pointer 5, 1, 8, [.pointer none], false⟩ := rfl
theorem r143 : E.row 143 = some ⟨.int .i32, 1, 4, [.int .i32 0], false⟩ := rfl
theorem r144 : E.row 144 = some ⟨.int .i32, 1, 4, [.int .i32 0], false⟩ := rfl
theorem r145 : E.row 145 = some ⟨.struct [(0, 12), (1, 12), (2, 138), (3, 139), (4, 5), (5, 5), (6, 140), (7, 141), (8, 142), (9, 143), (10, 144)], 11, 48, [.int .u64 0, .int .u64 0, .int .u32 0, .int .u8 0, .int .u8 0, .int .u8 0, .int .u8 0, .nilFunc, .pointer none, .int .i32 0, .int .i32 0], false⟩ := rfl
theorem r146 : E.row 146 = some ⟨.struct [(0, 12), (1, 12), (2, 138), (3, 139), (4, 5), (5, 5), (6, 140), (7, 141), (8, 142), (9, 143), (10, 144)], 11, 48, [.int .u64 0, .int .u64 0, .int .u32 0, .int .u8 0, .int .u8 0, .int .u8 0, .int .u8 0, .nilFunc, .pointer none, .int .i32 0, .int .i32 0], false⟩ := rfl
theorem b2 : E.body 2 = some (Tryd.f2.body.getD .skip, Tryd.f2.results.toList) := rfl
theorem b3 : E.body 3 = some (Tryd.f3.body.getD .skip, Tryd.f3.results.toList) := rfl
theorem b4 : E.body 4 = some (Tryd.f4.body.getD .skip, Tryd.f4.results.toList) := rfl
theorem b5 : E.body 5 = some (Tryd.f5.body.getD .skip, Tryd.f5.results.toList) := rfl
theorem b6 : E.body 6 = some (Tryd.f6.body.getD .skip, Tryd.f6.results.toList) := rfl
theorem b7 : E.body 7 = some (Tryd.f7.body.getD .skip, Tryd.f7.results.toList) := rfl
theorem b8 : E.body 8 = some (Tryd.f8.body.getD .skip, Tryd.f8.results.toList) := rfl
theorem b9 : E.body 9 = some (Tryd.f9.body.getD .skip, Tryd.f9.results.toList) := rfl
theorem b10 : E.body 10 = some (Tryd.f10.body.getD .skip, Tryd.f10.results.toList) := rfl
theorem b11 : E.body 11 = some (Tryd.f11.body.getD .skip, Tryd.f11.results.toList) := rfl
theorem b12 : E.body 12 = some (Tryd.f12.body.getD .skip, Tryd.f12.results.toList) := rfl
theorem b13 : E.body 13 = some (Tryd.f13.body.getD .skip, Tryd.f13.results.toList) := rfl
theorem b14 : E.body 14 = some (Tryd.f14.body.getD .skip, Tryd.f14.results.toList) := rfl
theorem b15 : E.body 15 = some (Tryd.f15.body.getD .skip, Tryd.f15.results.toList) := rfl
theorem b16 : E.body 16 = some (Tryd.f16.body.getD .skip, Tryd.f16.results.toList) := rfl
theorem b17 : E.body 17 = some (Tryd.f17.body.getD .skip, Tryd.f17.results.toList) := rfl
theorem b18 : E.body 18 = some (Tryd.f18.body.getD .skip, Tryd.f18.results.toList) := rfl
theorem b19 : E.body 19 = some (Tryd.f19.body.getD .skip, Tryd.f19.results.toList) := rfl
theorem b20 : E.body 20 = some (Tryd.f20.body.getD .skip, Tryd.f20.results.toList) := rfl
theorem b21 : E.body 21 = some (Tryd.f21.body.getD .skip, Tryd.f21.results.toList) := rfl
theorem b22 : E.body 22 = some (Tryd.f22.body.getD .skip, Tryd.f22.results.toList) := rfl
theorem b23 : E.body 23 = some (Tryd.f23.body.getD .skip, Tryd.f23.results.toList) := rfl
theorem b24 : E.body 24 = some (Tryd.f24.body.getD .skip, Tryd.f24.results.toList) := rfl
theorem b25 : E.body 25 = some (Tryd.f25.body.getD .skip, Tryd.f25.results.toList) := rfl
theorem b26 : E.body 26 = some (Tryd.f26.body.getD .skip, Tryd.f26.results.toList) := rfl
theorem b27 : E.body 27 = some (Tryd.f27.body.getD .skip, Tryd.f27.results.toList) := rfl
theorem b28 : E.body 28 = some (Tryd.f28.body.getD .skip, Tryd.f28.results.toList) := rfl
theorem b29 : E.body 29 = some (Tryd.f29.body.getD .skip, Tryd.f29.results.toList) := rfl
theorem b30 : E.body 30 = some (Tryd.f30.body.getD .skip, Tryd.f30.results.toList) := rfl
theorem b31 : E.body 31 = some (Tryd.f31.body.getD .skip, Tryd.f31.results.toList) := rfl
theorem b32 : E.body 32 = some (Tryd.f32.body.getD .skip, Tryd.f32.results.toList) := rfl
theorem b33 : E.body 33 = some (Tryd.f33.body.getD .skip, Tryd.f33.results.toList) := rfl
theorem b34 : E.body 34 = some (Tryd.f34.body.getD .skip, Tryd.f34.results.toList) := rfl
theorem b35 : E.body 35 = some (Tryd.f35.body.getD .skip, Tryd.f35.results.toList) := rfl
theorem b36 : E.body 36 = some (Tryd.f36.body.getD .skip, Tryd.f36.results.toList) := rfl
theorem b37 : E.body 37 = some (Tryd.f37.body.getD .skip, Tryd.f37.results.toList) := rfl
theorem b38 : E.body 38 = some (Tryd.f38.body.getD .skip, Tryd.f38.results.toList) := rfl
theorem b39 : E.body 39 = some (Tryd.f39.body.getD .skip, Tryd.f39.results.toList) := rfl
theorem b40 : E.body 40 = some (Tryd.f40.body.getD .skip, Tryd.f40.results.toList) := rfl
theorem b41 : E.body 41 = some (Tryd.f41.body.getD .skip, Tryd.f41.results.toList) := rfl
theorem b42 : E.body 42 = some (Tryd.f42.body.getD .skip, Tryd.f42.results.toList) := rfl
theorem b43 : E.body 43 = some (Tryd.f43.body.getD .skip, Tryd.f43.results.toList) := rfl
theorem b44 : E.body 44 = some (Tryd.f44.body.getD .skip, Tryd.f44.results.toList) := rfl
theorem b45 : E.body 45 = some (Tryd.f45.body.getD .skip, Tryd.f45.results.toList) := rfl
theorem b46 : E.body 46 = some (Tryd.f46.body.getD .skip, Tryd.f46.results.toList) := rfl
theorem b47 : E.body 47 = some (Tryd.f47.body.getD .skip, Tryd.f47.results.toList) := rfl
theorem b48 : E.body 48 = some (Tryd.f48.body.getD .skip, Tryd.f48.results.toList) := rfl
theorem b49 : E.body 49 = some (Tryd.f49.body.getD .skip, Tryd.f49.results.toList) := rfl
theorem b50 : E.body 50 = some (Tryd.f50.body.getD .skip, Tryd.f50.results.toList) := rfl
theorem b51 : E.body 51 = some (Tryd.f51.body.getD .skip, Tryd.f51.results.toList) := rfl
theorem b52 : E.body 52 = some (Tryd.f52.body.getD .skip, Tryd.f52.results.toList) := rfl
theorem b53 : E.body 53 = some (Tryd.f53.body.getD .skip, Tryd.f53.results.toList) := rfl
theorem b54 : E.body 54 = some (Tryd.f54.body.getD .skip, Tryd.f54.results.toList) := rfl
theorem b55 : E.body 55 = some (Tryd.f55.body.getD .skip, Tryd.f55.results.toList) := rfl
theorem b56 : E.body 56 = some (Tryd.f56.body.getD .skip, Tryd.f56.results.toList) := rfl
theorem b57 : E.body 57 = some (Tryd.f57.body.getD .skip, Tryd.f57.results.toList) := rfl
theorem b58 : E.body 58 = some (Tryd.f58.body.getD .skip, Tryd.f58.results.toList) := rfl
theorem b59 : E.body 59 = some (Tryd.f59.body.getD .skip, Tryd.f59.results.toList) := rfl
theorem b60 : E.body 60 = some (Tryd.f60.body.getD .skip, Tryd.f60.results.toList) := rfl
theorem b61 : E.body 61 = some (Tryd.f61.body.getD .skip, Tryd.f61.results.toList) := rfl
theorem b62 : E.body 62 = some (Tryd.f62.body.getD .skip, Tryd.f62.results.toList) := rfl
theorem b63 : E.body 63 = some (Tryd.f63.body.getD .skip, Tryd.f63.results.toList) := rfl
theorem b64 : E.body 64 = some (Tryd.f64.body.getD .skip, Tryd.f64.results.toList) := rfl
theorem b65 : E.body 65 = some (Tryd.f65.body.getD .skip, Tryd.f65.results.toList) := rfl
theorem b66 : E.body 66 = some (Tryd.f66.body.getD .skip, Tryd.f66.results.toList) := rfl
theorem b67 : E.body 67 = some (Tryd.f67.body.getD .skip, Tryd.f67.results.toList) := rfl
theorem b68 : E.body 68 = some (Tryd.f68.body.getD .skip, Tryd.f68.results.toList) := rfl
theorem b69 : E.body 69 = some (Tryd.f69.body.getD .skip, Tryd.f69.results.toList) := rfl
theorem b70 : E.body 70 = some (Tryd.f70.body.getD .skip, Tryd.f70.results.toList) := rfl
theorem b71 : E.body 71 = some (Tryd.f71.body.getD .skip, Tryd.f71.results.toList) := rfl
theorem b72 : E.body 72 = some (Tryd.f72.body.getD .skip, Tryd.f72.results.toList) := rfl
theorem b73 : E.body 73 = some (Tryd.f73.body.getD .skip, Tryd.f73.results.toList) := rfl
theorem b74 : E.body 74 = some (Tryd.f74.body.getD .skip, Tryd.f74.results.toList) := rfl
theorem b75 : E.body 75 = some (Tryd.f75.body.getD .skip, Tryd.f75.results.toList) := rfl
theorem b76 : E.body 76 = some (Tryd.f76.body.getD .skip, Tryd.f76.results.toList) := rfl
theorem b77 : E.body 77 = some (Tryd.f77.body.getD .skip, Tryd.f77.results.toList) := rfl
theorem b78 : E.body 78 = some (Tryd.f78.body.getD .skip, Tryd.f78.results.toList) := rfl
theorem b79 : E.body 79 = some (Tryd.f79.body.getD .skip, Tryd.f79.results.toList) := rfl
theorem b80 : E.body 80 = some (Tryd.f80.body.getD .skip, Tryd.f80.results.toList) := rfl
theorem b81 : E.body 81 = some (Tryd.f81.body.getD .skip, Tryd.f81.results.toList) := rfl
theorem b82 : E.body 82 = some (Tryd.f82.body.getD .skip, Tryd.f82.results.toList) := rfl
theorem b83 : E.body 83 = some (Tryd.f83.body.getD .skip, Tryd.f83.results.toList) := rfl
theorem b84 : E.body 84 = some (Tryd.f84.body.getD .skip, Tryd.f84.results.toList) := rfl
theorem b85 : E.body 85 = some (Tryd.f85.body.getD .skip, Tryd.f85.results.toList) := rfl
theorem b86 : E.body 86 = some (Tryd.f86.body.getD .skip, Tryd.f86.results.toList) := rfl
theorem b87 : E.body 87 = some (Tryd.f87.body.getD .skip, Tryd.f87.results.toList) := rfl
theorem b89 : E.body 89 = some (Tryd.f89.body.getD .skip, Tryd.f89.results.toList) := rfl
theorem b90 : E.body 90 = some (Tryd.f90.body.getD .skip, Tryd.f90.results.toList) := rfl
theorem b91 : E.body 91 = some (Tryd.f91.body.getD .skip, Tryd.f91.results.toList) := rfl
theorem b92 : E.body 92 = some (Tryd.f92.body.getD .skip, Tryd.f92.results.toList) := rfl
theorem b93 : E.body 93 = some (Tryd.f93.body.getD .skip, Tryd.f93.results.toList) := rfl
theorem b94 : E.body 94 = some (Tryd.f94.body.getD .skip, Tryd.f94.results.toList) := rfl
theorem b95 : E.body 95 = some (Tryd.f95.body.getD .skip, Tryd.f95.results.toList) := rfl
theorem b96 : E.body 96 = some (Tryd.f96.body.getD .skip, Tryd.f96.results.toList) := rfl
theorem b97 : E.body 97 = some (Tryd.f97.body.getD .skip, Tryd.f97.results.toList) := rfl
theorem b98 : E.body 98 = some (Tryd.f98.body.getD .skip, Tryd.f98.results.toList) := rfl
theorem b99 : E.body 99 = some (Tryd.f99.body.getD .skip, Tryd.f99.results.toList) := rfl
theorem b100 : E.body 100 = some (Tryd.f100.body.getD .skip, Tryd.f100.results.toList) := rfl
theorem b102 : E.body 102 = some (Tryd.f102.body.getD .skip, Tryd.f102.results.toList) := rfl
theorem b103 : E.body 103 = some (Tryd.f103.body.getD .skip, Tryd.f103.results.toList) := rfl
theorem b104 : E.body 104 = some (Tryd.f104.body.getD .skip, Tryd.f104.results.toList) := rfl
theorem b105 : E.body 105 = some (Tryd.f105.body.getD .skip, Tryd.f105.results.toList) := rfl
theorem b106 : E.body 106 = some (Tryd.f106.body.getD .skip, Tryd.f106.results.toList) := rfl
theorem b107 : E.body 107 = some (Tryd.f107.body.getD .skip, Tryd.f107.results.toList) := rfl
theorem b109 : E.body 109 = some (Tryd.f109.body.getD .skip, Tryd.f109.results.toList) := rfl
theorem b110 : E.body 110 = some (Tryd.f110.body.getD .skip, Tryd.f110.results.toList) := rfl
theorem b111 : E.body 111 = some (Tryd.f111.body.getD .skip, Tryd.f111.results.toList) := rfl
theorem b112 : E.body 112 = some (Tryd.f112.body.getD .skip, Tryd.f112.results.toList) := rfl
theorem b114 : E.body 114 = some (Tryd.f114.body.getD .skip, Tryd.f114.results.toList) := rfl
theorem b136 : E.body 136 = some (Tryd.f136.body.getD .skip, Tryd.f136.results.toList) := rfl
theorem lv3_14 : E.live 3 14 = [0, 8, 9, 10, 11, 13] := rfl
theorem lv4_11 : E.live 4 11 = [3, 4, 5, 7, 9, 11] := rfl
theorem lv4_18 : E.live 4 18 = [3, 4, 7, 16] := rfl
theorem lv5_9 : E.live 5 9 = [0, 3, 6, 8] := rfl
theorem lv15_4 : E.live 15 4 = [1, 3] := rfl
theorem lv21_5 : E.live 21 5 = [4, 5, 6, 7] := rfl
theorem lv22_5 : E.live 22 5 = [0, 1, 7, 21, 22, 23] := rfl
theorem lv23_2 : E.live 23 2 = [0, 3] := rfl
theorem lv24_2 : E.live 24 2 = [0, 5, 6, 7] := rfl
theorem lv28_5 : E.live 28 5 = [0, 4, 5, 23, 24] := rfl
theorem lv31_5 : E.live 31 5 = [3, 10, 11, 12] := rfl
theorem lv34_3 : E.live 34 3 = [0, 3, 4] := rfl
theorem lv36_3 : E.live 36 3 = [3, 6, 7, 8] := rfl
theorem lv38_2 : E.live 38 2 = [0, 3] := rfl
theorem lv43_4 : E.live 43 4 = [0, 2, 3, 4] := rfl
theorem lv44_5 : E.live 44 5 = [1, 3, 31, 32, 33] := rfl
theorem lv45_4 : E.live 45 4 = [0, 2, 4, 5, 6, 7, 25, 26] := rfl
theorem lv49_9 : E.live 49 9 = [1, 4, 5] := rfl
theorem lv57_11 : E.live 57 11 = [3, 6, 8] := rfl
theorem lv61_3 : E.live 61 3 = [1, 5, 11, 12, 13] := rfl
theorem lv64_3 : E.live 64 3 = [0, 3, 4] := rfl
theorem lv65_3 : E.live 65 3 = [3, 10, 11, 12] := rfl
theorem lv71_5 : E.live 71 5 = [0, 4, 5] := rfl
theorem lv74_3 : E.live 74 3 = [0, 5, 6] := rfl
theorem lv77_3 : E.live 77 3 = [0, 3, 9, 10, 11] := rfl
theorem lv77_11 : E.live 77 11 = [6, 25, 26, 27] := rfl
theorem lv80_2 : E.live 80 2 = [0, 1, 7, 8] := rfl
theorem lv81_5 : E.live 81 5 = [0, 3, 4] := rfl
theorem lv82_2 : E.live 82 2 = [0, 1, 5] := rfl
theorem lv83_3 : E.live 83 3 = [0, 1, 2, 8, 9, 10] := rfl
theorem lv87_3 : E.live 87 3 = [0, 5, 6] := rfl
theorem lv94_1 : E.live 94 1 = [0, 1] := rfl
theorem lv95_1 : E.live 95 1 = [0, 1] := rfl
theorem lv96_2 : E.live 96 2 = [0, 2, 4] := rfl
theorem lv97_1 : E.live 97 1 = [0, 1] := rfl
theorem lv98_1 : E.live 98 1 = [0, 1] := rfl
theorem lv99_1 : E.live 99 1 = [0, 1] := rfl
theorem lv100_1 : E.live 100 1 = [0, 1] := rfl
theorem lv102_1 : E.live 102 1 = [0, 2, 3] := rfl
theorem lv106_10 : E.live 106 10 = [0, 4, 5, 6] := rfl
theorem ld2 : E.lend 2 = [] := rfl
theorem ld3 : E.lend 3 = [] := rfl
theorem ld4 : E.lend 4 = [] := rfl
theorem ld5 : E.lend 5 = [] := rfl
theorem ld6 : E.lend 6 = [] := rfl
theorem ld7 : E.lend 7 = [] := rfl
theorem ld8 : E.lend 8 = [] := rfl
theorem ld9 : E.lend 9 = [] := rfl
theorem ld10 : E.lend 10 = [] := rfl
theorem ld11 : E.lend 11 = [] := rfl
theorem ld12 : E.lend 12 = [] := rfl
theorem ld13 : E.lend 13 = [] := rfl
theorem ld14 : E.lend 14 = [] := rfl
theorem ld15 : E.lend 15 = [] := rfl
theorem ld16 : E.lend 16 = [] := rfl
theorem ld17 : E.lend 17 = [] := rfl
theorem ld18 : E.lend 18 = [] := rfl
theorem ld19 : E.lend 19 = [] := rfl
theorem ld20 : E.lend 20 = [] := rfl
theorem ld21 : E.lend 21 = [] := rfl
theorem ld22 : E.lend 22 = [] := rfl
theorem ld23 : E.lend 23 = [] := rfl
theorem ld24 : E.lend 24 = [] := rfl
theorem ld25 : E.lend 25 = [] := rfl
theorem ld26 : E.lend 26 = [] := rfl
theorem ld27 : E.lend 27 = [] := rfl
theorem ld28 : E.lend 28 = [true] := rfl
theorem ld29 : E.lend 29 = [] := rfl
theorem ld30 : E.lend 30 = [] := rfl
theorem ld31 : E.lend 31 = [] := rfl
theorem ld32 : E.lend 32 = [] := rfl
theorem ld33 : E.lend 33 = [true] := rfl
theorem ld34 : E.lend 34 = [] := rfl
theorem ld35 : E.lend 35 = [] := rfl
theorem ld36 : E.lend 36 = [] := rfl
theorem ld37 : E.lend 37 = [] := rfl
theorem ld38 : E.lend 38 = [] := rfl
theorem ld39 : E.lend 39 = [] := rfl
theorem ld40 : E.lend 40 = [] := rfl
theorem ld41 : E.lend 41 = [] := rfl
theorem ld42 : E.lend 42 = [] := rfl
theorem ld43 : E.lend 43 = [true] := rfl
theorem ld44 : E.lend 44 = [] := rfl
theorem ld45 : E.lend 45 = [] := rfl
theorem ld46 : E.lend 46 = [] := rfl
theorem ld47 : E.lend 47 = [] := rfl
theorem ld48 : E.lend 48 = [] := rfl
theorem ld49 : E.lend 49 = [] := rfl
theorem ld50 : E.lend 50 = [true, true] := rfl
theorem ld51 : E.lend 51 = [true, false] := rfl
theorem ld52 : E.lend 52 = [] := rfl
theorem ld53 : E.lend 53 = [true, false] := rfl
theorem ld54 : E.lend 54 = [] := rfl
theorem ld55 : E.lend 55 = [true] := rfl
theorem ld56 : E.lend 56 = [] := rfl
theorem ld57 : E.lend 57 = [] := rfl
theorem ld58 : E.lend 58 = [true] := rfl
theorem ld59 : E.lend 59 = [] := rfl
theorem ld60 : E.lend 60 = [] := rfl
theorem ld61 : E.lend 61 = [] := rfl
theorem ld62 : E.lend 62 = [] := rfl
theorem ld63 : E.lend 63 = [] := rfl
theorem ld64 : E.lend 64 = [true] := rfl
theorem ld65 : E.lend 65 = [] := rfl
theorem ld66 : E.lend 66 = [true] := rfl
theorem ld67 : E.lend 67 = [] := rfl
theorem ld68 : E.lend 68 = [] := rfl
theorem ld69 : E.lend 69 = [true] := rfl
theorem ld70 : E.lend 70 = [true] := rfl
theorem ld71 : E.lend 71 = [] := rfl
theorem ld72 : E.lend 72 = [true] := rfl
theorem ld73 : E.lend 73 = [true] := rfl
theorem ld74 : E.lend 74 = [true, false] := rfl
theorem ld75 : E.lend 75 = [true, false] := rfl
theorem ld76 : E.lend 76 = [true, false] := rfl
theorem ld77 : E.lend 77 = [] := rfl
theorem ld78 : E.lend 78 = [] := rfl
theorem ld79 : E.lend 79 = [] := rfl
theorem ld80 : E.lend 80 = [] := rfl
theorem ld81 : E.lend 81 = [] := rfl
theorem ld82 : E.lend 82 = [] := rfl
theorem ld83 : E.lend 83 = [] := rfl
theorem ld84 : E.lend 84 = [] := rfl
theorem ld85 : E.lend 85 = [] := rfl
theorem ld86 : E.lend 86 = [] := rfl
theorem ld87 : E.lend 87 = [] := rfl
theorem ld89 : E.lend 89 = [] := rfl
theorem ld90 : E.lend 90 = [] := rfl
theorem ld91 : E.lend 91 = [] := rfl
theorem ld92 : E.lend 92 = [] := rfl
theorem ld93 : E.lend 93 = [] := rfl
theorem ld94 : E.lend 94 = [] := rfl
theorem ld95 : E.lend 95 = [] := rfl
theorem ld96 : E.lend 96 = [] := rfl
theorem ld97 : E.lend 97 = [false, true] := rfl
theorem ld98 : E.lend 98 = [false, true] := rfl
theorem ld99 : E.lend 99 = [] := rfl
theorem ld100 : E.lend 100 = [] := rfl
theorem ld102 : E.lend 102 = [] := rfl
theorem ld103 : E.lend 103 = [true, false] := rfl
theorem ld104 : E.lend 104 = [] := rfl
theorem ld105 : E.lend 105 = [] := rfl
theorem ld106 : E.lend 106 = [] := rfl
theorem ld107 : E.lend 107 = [] := rfl
theorem ld109 : E.lend 109 = [] := rfl
theorem ld110 : E.lend 110 = [] := rfl
theorem ld111 : E.lend 111 = [] := rfl
theorem ld112 : E.lend 112 = [] := rfl
theorem ld114 : E.lend 114 = [] := rfl
theorem ld136 : E.lend 136 = [] := rfl
theorem bf2 : E.boxf 2 = false := rfl
theorem bf3 : E.boxf 3 = false := rfl
theorem bf4 : E.boxf 4 = false := rfl
theorem bf5 : E.boxf 5 = false := rfl
theorem bf6 : E.boxf 6 = false := rfl
theorem bf7 : E.boxf 7 = false := rfl
theorem bf8 : E.boxf 8 = false := rfl
theorem bf9 : E.boxf 9 = false := rfl
theorem bf10 : E.boxf 10 = false := rfl
theorem bf11 : E.boxf 11 = false := rfl
theorem bf12 : E.boxf 12 = false := rfl
theorem bf13 : E.boxf 13 = false := rfl
theorem bf14 : E.boxf 14 = false := rfl
theorem bf15 : E.boxf 15 = false := rfl
theorem bf16 : E.boxf 16 = false := rfl
theorem bf17 : E.boxf 17 = false := rfl
theorem bf18 : E.boxf 18 = false := rfl
theorem bf19 : E.boxf 19 = false := rfl
theorem bf20 : E.boxf 20 = false := rfl
theorem bf21 : E.boxf 21 = false := rfl
theorem bf22 : E.boxf 22 = false := rfl
theorem bf23 : E.boxf 23 = false := rfl
theorem bf24 : E.boxf 24 = false := rfl
theorem bf25 : E.boxf 25 = false := rfl
theorem bf26 : E.boxf 26 = false := rfl
theorem bf27 : E.boxf 27 = false := rfl
theorem bf28 : E.boxf 28 = false := rfl
theorem bf29 : E.boxf 29 = false := rfl
theorem bf30 : E.boxf 30 = false := rfl
theorem bf31 : E.boxf 31 = false := rfl
theorem bf32 : E.boxf 32 = false := rfl
theorem bf33 : E.boxf 33 = false := rfl
theorem bf34 : E.boxf 34 = false := rfl
theorem bf35 : E.boxf 35 = false := rfl
theorem bf36 : E.boxf 36 = false := rfl
theorem bf37 : E.boxf 37 = false := rfl
theorem bf38 : E.boxf 38 = false := rfl
theorem bf39 : E.boxf 39 = false := rfl
theorem bf40 : E.boxf 40 = false := rfl
theorem bf41 : E.boxf 41 = false := rfl
theorem bf42 : E.boxf 42 = false := rfl
theorem bf43 : E.boxf 43 = false := rfl
theorem bf44 : E.boxf 44 = false := rfl
theorem bf45 : E.boxf 45 = false := rfl
theorem bf46 : E.boxf 46 = false := rfl
theorem bf47 : E.boxf 47 = false := rfl
theorem bf48 : E.boxf 48 = false := rfl
theorem bf49 : E.boxf 49 = false := rfl
theorem bf50 : E.boxf 50 = false := rfl
theorem bf51 : E.boxf 51 = false := rfl
theorem bf52 : E.boxf 52 = false := rfl
theorem bf53 : E.boxf 53 = false := rfl
theorem bf54 : E.boxf 54 = false := rfl
theorem bf55 : E.boxf 55 = false := rfl
theorem bf56 : E.boxf 56 = false := rfl
theorem bf57 : E.boxf 57 = false := rfl
theorem bf58 : E.boxf 58 = false := rfl
theorem bf59 : E.boxf 59 = false := rfl
theorem bf60 : E.boxf 60 = false := rfl
theorem bf61 : E.boxf 61 = false := rfl
theorem bf62 : E.boxf 62 = false := rfl
theorem bf63 : E.boxf 63 = false := rfl
theorem bf64 : E.boxf 64 = false := rfl
theorem bf65 : E.boxf 65 = false := rfl
theorem bf66 : E.boxf 66 = false := rfl
theorem bf67 : E.boxf 67 = false := rfl
theorem bf68 : E.boxf 68 = false := rfl
theorem bf69 : E.boxf 69 = false := rfl
theorem bf70 : E.boxf 70 = false := rfl
theorem bf71 : E.boxf 71 = false := rfl
theorem bf72 : E.boxf 72 = false := rfl
theorem bf73 : E.boxf 73 = false := rfl
theorem bf74 : E.boxf 74 = false := rfl
theorem bf75 : E.boxf 75 = false := rfl
theorem bf76 : E.boxf 76 = false := rfl
theorem bf77 : E.boxf 77 = false := rfl
theorem bf78 : E.boxf 78 = false := rfl
theorem bf79 : E.boxf 79 = false := rfl
theorem bf80 : E.boxf 80 = false := rfl
theorem bf81 : E.boxf 81 = false := rfl
theorem bf82 : E.boxf 82 = false := rfl
theorem bf83 : E.boxf 83 = false := rfl
theorem bf84 : E.boxf 84 = false := rfl
theorem bf85 : E.boxf 85 = false := rfl
theorem bf86 : E.boxf 86 = false := rfl
theorem bf87 : E.boxf 87 = false := rfl
theorem bf89 : E.boxf 89 = false := rfl
theorem bf90 : E.boxf 90 = false := rfl
theorem bf91 : E.boxf 91 = false := rfl
theorem bf92 : E.boxf 92 = false := rfl
theorem bf93 : E.boxf 93 = false := rfl
theorem bf94 : E.boxf 94 = false := rfl
theorem bf95 : E.boxf 95 = false := rfl
theorem bf96 : E.boxf 96 = false := rfl
theorem bf97 : E.boxf 97 = false := rfl
theorem bf98 : E.boxf 98 = false := rfl
theorem bf99 : E.boxf 99 = false := rfl
theorem bf100 : E.boxf 100 = false := rfl
theorem bf102 : E.boxf 102 = false := rfl
theorem bf103 : E.boxf 103 = false := rfl
theorem bf104 : E.boxf 104 = false := rfl
theorem bf105 : E.boxf 105 = false := rfl
theorem bf106 : E.boxf 106 = false := rfl
theorem bf107 : E.boxf 107 = false := rfl
theorem bf109 : E.boxf 109 = false := rfl
theorem bf110 : E.boxf 110 = false := rfl
theorem bf111 : E.boxf 111 = false := rfl
theorem bf112 : E.boxf 112 = false := rfl
theorem bf114 : E.boxf 114 = false := rfl
theorem bf136 : E.boxf 136 = false := rfl
theorem nf2 : E.notef 2 = false := rfl
theorem nf3 : E.notef 3 = false := rfl
theorem nf4 : E.notef 4 = false := rfl
theorem nf5 : E.notef 5 = false := rfl
theorem nf6 : E.notef 6 = false := rfl
theorem nf7 : E.notef 7 = false := rfl
theorem nf8 : E.notef 8 = false := rfl
theorem nf9 : E.notef 9 = false := rfl
theorem nf10 : E.notef 10 = false := rfl
theorem nf11 : E.notef 11 = false := rfl
theorem nf12 : E.notef 12 = false := rfl
theorem nf13 : E.notef 13 = false := rfl
theorem nf14 : E.notef 14 = false := rfl
theorem nf15 : E.notef 15 = false := rfl
theorem nf16 : E.notef 16 = false := rfl
theorem nf17 : E.notef 17 = false := rfl
theorem nf18 : E.notef 18 = false := rfl
theorem nf19 : E.notef 19 = false := rfl
theorem nf20 : E.notef 20 = false := rfl
theorem nf21 : E.notef 21 = false := rfl
theorem nf22 : E.notef 22 = false := rfl
theorem nf23 : E.notef 23 = false := rfl
theorem nf24 : E.notef 24 = false := rfl
theorem nf25 : E.notef 25 = false := rfl
theorem nf26 : E.notef 26 = false := rfl
theorem nf27 : E.notef 27 = false := rfl
theorem nf28 : E.notef 28 = false := rfl
theorem nf29 : E.notef 29 = false := rfl
theorem nf30 : E.notef 30 = false := rfl
theorem nf31 : E.notef 31 = false := rfl
theorem nf32 : E.notef 32 = false := rfl
theorem nf33 : E.notef 33 = false := rfl
theorem nf34 : E.notef 34 = false := rfl
theorem nf35 : E.notef 35 = false := rfl
theorem nf36 : E.notef 36 = false := rfl
theorem nf37 : E.notef 37 = false := rfl
theorem nf38 : E.notef 38 = false := rfl
theorem nf39 : E.notef 39 = false := rfl
theorem nf40 : E.notef 40 = false := rfl
theorem nf41 : E.notef 41 = false := rfl
theorem nf42 : E.notef 42 = false := rfl
theorem nf43 : E.notef 43 = false := rfl
theorem nf44 : E.notef 44 = false := rfl
theorem nf45 : E.notef 45 = true := rfl
theorem nf46 : E.notef 46 = false := rfl
theorem nf47 : E.notef 47 = false := rfl
theorem nf48 : E.notef 48 = false := rfl
theorem nf49 : E.notef 49 = false := rfl
theorem nf50 : E.notef 50 = false := rfl
theorem nf51 : E.notef 51 = false := rfl
theorem nf52 : E.notef 52 = false := rfl
theorem nf53 : E.notef 53 = false := rfl
theorem nf54 : E.notef 54 = false := rfl
theorem nf55 : E.notef 55 = false := rfl
theorem nf56 : E.notef 56 = false := rfl
theorem nf57 : E.notef 57 = false := rfl
theorem nf58 : E.notef 58 = false := rfl
theorem nf59 : E.notef 59 = false := rfl
theorem nf60 : E.notef 60 = false := rfl
theorem nf61 : E.notef 61 = false := rfl
theorem nf62 : E.notef 62 = false := rfl
theorem nf63 : E.notef 63 = false := rfl
theorem nf64 : E.notef 64 = false := rfl
theorem nf65 : E.notef 65 = false := rfl
theorem nf66 : E.notef 66 = false := rfl
theorem nf67 : E.notef 67 = false := rfl
theorem nf68 : E.notef 68 = false := rfl
theorem nf69 : E.notef 69 = false := rfl
theorem nf70 : E.notef 70 = false := rfl
theorem nf71 : E.notef 71 = false := rfl
theorem nf72 : E.notef 72 = false := rfl
theorem nf73 : E.notef 73 = false := rfl
theorem nf74 : E.notef 74 = false := rfl
theorem nf75 : E.notef 75 = false := rfl
theorem nf76 : E.notef 76 = false := rfl
theorem nf77 : E.notef 77 = false := rfl
theorem nf78 : E.notef 78 = false := rfl
theorem nf79 : E.notef 79 = false := rfl
theorem nf80 : E.notef 80 = false := rfl
theorem nf81 : E.notef 81 = false := rfl
theorem nf82 : E.notef 82 = false := rfl
theorem nf83 : E.notef 83 = false := rfl
theorem nf84 : E.notef 84 = false := rfl
theorem nf85 : E.notef 85 = false := rfl
theorem nf86 : E.notef 86 = false := rfl
theorem nf87 : E.notef 87 = false := rfl
theorem nf89 : E.notef 89 = false := rfl
theorem nf90 : E.notef 90 = false := rfl
theorem nf91 : E.notef 91 = false := rfl
theorem nf92 : E.notef 92 = false := rfl
theorem nf93 : E.notef 93 = false := rfl
theorem nf94 : E.notef 94 = false := rfl
theorem nf95 : E.notef 95 = false := rfl
theorem nf96 : E.notef 96 = false := rfl
theorem nf97 : E.notef 97 = false := rfl
theorem nf98 : E.notef 98 = false := rfl
theorem nf99 : E.notef 99 = false := rfl
theorem nf100 : E.notef 100 = false := rfl
theorem nf102 : E.notef 102 = false := rfl
theorem nf103 : E.notef 103 = false := rfl
theorem nf104 : E.notef 104 = false := rfl
theorem nf105 : E.notef 105 = false := rfl
theorem nf106 : E.notef 106 = false := rfl
theorem nf107 : E.notef 107 = false := rfl
theorem nf109 : E.notef 109 = false := rfl
theorem nf110 : E.notef 110 = false := rfl
theorem nf111 : E.notef 111 = false := rfl
theorem nf112 : E.notef 112 = false := rfl
theorem nf114 : E.notef 114 = false := rfl
theorem nf136 : E.notef 136 = false := rfl
theorem dp2 : E.deep 2 = false := rfl
theorem dp3 : E.deep 3 = false := rfl
theorem dp4 : E.deep 4 = false := rfl
theorem dp5 : E.deep 5 = false := rfl
theorem dp6 : E.deep 6 = false := rfl
theorem dp7 : E.deep 7 = false := rfl
theorem dp8 : E.deep 8 = false := rfl
theorem dp9 : E.deep 9 = false := rfl
theorem dp10 : E.deep 10 = false := rfl
theorem dp11 : E.deep 11 = false := rfl
theorem dp12 : E.deep 12 = false := rfl
theorem dp13 : E.deep 13 = false := rfl
theorem dp14 : E.deep 14 = false := rfl
theorem dp15 : E.deep 15 = false := rfl
theorem dp16 : E.deep 16 = false := rfl
theorem dp17 : E.deep 17 = false := rfl
theorem dp18 : E.deep 18 = false := rfl
theorem dp19 : E.deep 19 = false := rfl
theorem dp20 : E.deep 20 = false := rfl
theorem dp21 : E.deep 21 = false := rfl
theorem dp22 : E.deep 22 = false := rfl
theorem dp23 : E.deep 23 = false := rfl
theorem dp24 : E.deep 24 = false := rfl
theorem dp25 : E.deep 25 = false := rfl
theorem dp26 : E.deep 26 = false := rfl
theorem dp27 : E.deep 27 = false := rfl
theorem dp28 : E.deep 28 = false := rfl
theorem dp29 : E.deep 29 = false := rfl
theorem dp30 : E.deep 30 = false := rfl
theorem dp31 : E.deep 31 = false := rfl
theorem dp32 : E.deep 32 = false := rfl
theorem dp33 : E.deep 33 = false := rfl
theorem dp34 : E.deep 34 = false := rfl
theorem dp35 : E.deep 35 = false := rfl
theorem dp36 : E.deep 36 = false := rfl
theorem dp37 : E.deep 37 = false := rfl
theorem dp38 : E.deep 38 = false := rfl
theorem dp39 : E.deep 39 = false := rfl
theorem dp40 : E.deep 40 = false := rfl
theorem dp41 : E.deep 41 = false := rfl
theorem dp42 : E.deep 42 = false := rfl
theorem dp43 : E.deep 43 = false := rfl
theorem dp44 : E.deep 44 = false := rfl
theorem dp45 : E.deep 45 = false := rfl
theorem dp46 : E.deep 46 = false := rfl
theorem dp47 : E.deep 47 = false := rfl
theorem dp48 : E.deep 48 = false := rfl
theorem dp49 : E.deep 49 = false := rfl
theorem dp50 : E.deep 50 = false := rfl
theorem dp51 : E.deep 51 = false := rfl
theorem dp52 : E.deep 52 = false := rfl
theorem dp53 : E.deep 53 = false := rfl
theorem dp54 : E.deep 54 = false := rfl
theorem dp55 : E.deep 55 = false := rfl
theorem dp56 : E.deep 56 = false := rfl
theorem dp57 : E.deep 57 = false := rfl
theorem dp58 : E.deep 58 = false := rfl
theorem dp59 : E.deep 59 = false := rfl
theorem dp60 : E.deep 60 = false := rfl
theorem dp61 : E.deep 61 = false := rfl
theorem dp62 : E.deep 62 = false := rfl
theorem dp63 : E.deep 63 = false := rfl
theorem dp64 : E.deep 64 = false := rfl
theorem dp65 : E.deep 65 = false := rfl
theorem dp66 : E.deep 66 = false := rfl
theorem dp67 : E.deep 67 = false := rfl
theorem dp68 : E.deep 68 = false := rfl
theorem dp69 : E.deep 69 = false := rfl
theorem dp70 : E.deep 70 = false := rfl
theorem dp71 : E.deep 71 = false := rfl
theorem dp72 : E.deep 72 = false := rfl
theorem dp73 : E.deep 73 = false := rfl
theorem dp74 : E.deep 74 = false := rfl
theorem dp75 : E.deep 75 = false := rfl
theorem dp76 : E.deep 76 = false := rfl
theorem dp77 : E.deep 77 = false := rfl
theorem dp78 : E.deep 78 = false := rfl
theorem dp79 : E.deep 79 = false := rfl
theorem dp80 : E.deep 80 = false := rfl
theorem dp81 : E.deep 81 = false := rfl
theorem dp82 : E.deep 82 = false := rfl
theorem dp83 : E.deep 83 = false := rfl
theorem dp84 : E.deep 84 = false := rfl
theorem dp85 : E.deep 85 = false := rfl
theorem dp86 : E.deep 86 = false := rfl
theorem dp87 : E.deep 87 = false := rfl
theorem dp89 : E.deep 89 = false := rfl
theorem dp90 : E.deep 90 = false := rfl
theorem dp91 : E.deep 91 = false := rfl
theorem dp92 : E.deep 92 = false := rfl
theorem dp93 : E.deep 93 = false := rfl
theorem dp94 : E.deep 94 = false := rfl
theorem dp95 : E.deep 95 = false := rfl
theorem dp96 : E.deep 96 = false := rfl
theorem dp97 : E.deep 97 = false := rfl
theorem dp98 : E.deep 98 = false := rfl
theorem dp99 : E.deep 99 = false := rfl
theorem dp100 : E.deep 100 = false := rfl
theorem dp102 : E.deep 102 = false := rfl
theorem dp103 : E.deep 103 = false := rfl
theorem dp104 : E.deep 104 = false := rfl
theorem dp105 : E.deep 105 = false := rfl
theorem dp106 : E.deep 106 = false := rfl
theorem dp107 : E.deep 107 = false := rfl
theorem dp109 : E.deep 109 = false := rfl
theorem dp110 : E.deep 110 = false := rfl
theorem dp111 : E.deep 111 = false := rfl
theorem dp112 : E.deep 112 = false := rfl
theorem dp114 : E.deep 114 = false := rfl
theorem dp136 : E.deep 136 = false := rfl
theorem ld88 : E.lend 88 = [false, true] := rfl
theorem dp88 : E.deep 88 = false := rfl
theorem is88 : E.insf 88 = none := rfl
theorem wk88 : E.wk 88 = none := rfl
theorem ld101 : E.lend 101 = [] := rfl
theorem dp101 : E.deep 101 = false := rfl
theorem is101 : E.insf 101 = none := rfl
theorem wk101 : E.wk 101 = none := rfl
theorem is2 : E.insf 2 = none := rfl
theorem is3 : E.insf 3 = none := rfl
theorem is4 : E.insf 4 = none := rfl
theorem is5 : E.insf 5 = none := rfl
theorem is6 : E.insf 6 = none := rfl
theorem is7 : E.insf 7 = none := rfl
theorem is8 : E.insf 8 = none := rfl
theorem is9 : E.insf 9 = none := rfl
theorem is10 : E.insf 10 = none := rfl
theorem is11 : E.insf 11 = none := rfl
theorem is12 : E.insf 12 = none := rfl
theorem is13 : E.insf 13 = none := rfl
theorem is14 : E.insf 14 = none := rfl
theorem is15 : E.insf 15 = none := rfl
theorem is16 : E.insf 16 = none := rfl
theorem is17 : E.insf 17 = none := rfl
theorem is18 : E.insf 18 = none := rfl
theorem is19 : E.insf 19 = none := rfl
theorem is20 : E.insf 20 = none := rfl
theorem is21 : E.insf 21 = none := rfl
theorem is22 : E.insf 22 = none := rfl
theorem is23 : E.insf 23 = none := rfl
theorem is24 : E.insf 24 = none := rfl
theorem is25 : E.insf 25 = none := rfl
theorem is26 : E.insf 26 = none := rfl
theorem is27 : E.insf 27 = none := rfl
theorem is28 : E.insf 28 = none := rfl
theorem is29 : E.insf 29 = none := rfl
theorem is30 : E.insf 30 = none := rfl
theorem is31 : E.insf 31 = none := rfl
theorem is32 : E.insf 32 = none := rfl
theorem is33 : E.insf 33 = none := rfl
theorem is34 : E.insf 34 = none := rfl
theorem is35 : E.insf 35 = none := rfl
theorem is36 : E.insf 36 = none := rfl
theorem is37 : E.insf 37 = none := rfl
theorem is38 : E.insf 38 = none := rfl
theorem is39 : E.insf 39 = none := rfl
theorem is40 : E.insf 40 = none := rfl
theorem is41 : E.insf 41 = none := rfl
theorem is42 : E.insf 42 = none := rfl
theorem is43 : E.insf 43 = none := rfl
theorem is44 : E.insf 44 = none := rfl
theorem is45 : E.insf 45 = none := rfl
theorem is46 : E.insf 46 = none := rfl
theorem is47 : E.insf 47 = none := rfl
theorem is48 : E.insf 48 = none := rfl
theorem is49 : E.insf 49 = none := rfl
theorem is50 : E.insf 50 = none := rfl
theorem is51 : E.insf 51 = none := rfl
theorem is52 : E.insf 52 = none := rfl
theorem is53 : E.insf 53 = none := rfl
theorem is54 : E.insf 54 = none := rfl
theorem is55 : E.insf 55 = none := rfl
theorem is56 : E.insf 56 = none := rfl
theorem is57 : E.insf 57 = none := rfl
theorem is58 : E.insf 58 = none := rfl
theorem is59 : E.insf 59 = none := rfl
theorem is60 : E.insf 60 = none := rfl
theorem is61 : E.insf 61 = none := rfl
theorem is62 : E.insf 62 = none := rfl
theorem is63 : E.insf 63 = none := rfl
theorem is64 : E.insf 64 = none := rfl
theorem is65 : E.insf 65 = none := rfl
theorem is66 : E.insf 66 = none := rfl
theorem is67 : E.insf 67 = none := rfl
theorem is68 : E.insf 68 = none := rfl
theorem is69 : E.insf 69 = some 4 := rfl
theorem is70 : E.insf 70 = none := rfl
theorem is71 : E.insf 71 = none := rfl
theorem is72 : E.insf 72 = none := rfl
theorem is73 : E.insf 73 = none := rfl
theorem is74 : E.insf 74 = none := rfl
theorem is75 : E.insf 75 = none := rfl
theorem is76 : E.insf 76 = none := rfl
theorem is77 : E.insf 77 = none := rfl
theorem is78 : E.insf 78 = none := rfl
theorem is79 : E.insf 79 = none := rfl
theorem is80 : E.insf 80 = none := rfl
theorem is81 : E.insf 81 = none := rfl
theorem is82 : E.insf 82 = none := rfl
theorem is83 : E.insf 83 = none := rfl
theorem is84 : E.insf 84 = none := rfl
theorem is85 : E.insf 85 = none := rfl
theorem is86 : E.insf 86 = none := rfl
theorem is87 : E.insf 87 = none := rfl
theorem is89 : E.insf 89 = none := rfl
theorem is90 : E.insf 90 = none := rfl
theorem is91 : E.insf 91 = none := rfl
theorem is92 : E.insf 92 = none := rfl
theorem is93 : E.insf 93 = none := rfl
theorem is94 : E.insf 94 = none := rfl
theorem is95 : E.insf 95 = none := rfl
theorem is96 : E.insf 96 = none := rfl
theorem is97 : E.insf 97 = none := rfl
theorem is98 : E.insf 98 = none := rfl
theorem is99 : E.insf 99 = none := rfl
theorem is100 : E.insf 100 = none := rfl
theorem is102 : E.insf 102 = none := rfl
theorem is103 : E.insf 103 = none := rfl
theorem is104 : E.insf 104 = none := rfl
theorem is105 : E.insf 105 = none := rfl
theorem is106 : E.insf 106 = none := rfl
theorem is107 : E.insf 107 = none := rfl
theorem is109 : E.insf 109 = none := rfl
theorem is110 : E.insf 110 = none := rfl
theorem is111 : E.insf 111 = none := rfl
theorem is112 : E.insf 112 = none := rfl
theorem is114 : E.insf 114 = none := rfl
theorem is136 : E.insf 136 = none := rfl
theorem cf2 : E.cutf 2 = false := rfl
theorem cf3 : E.cutf 3 = true := rfl
theorem cf4 : E.cutf 4 = false := rfl
theorem cf5 : E.cutf 5 = true := rfl
theorem cf6 : E.cutf 6 = false := rfl
theorem cf7 : E.cutf 7 = false := rfl
theorem cf8 : E.cutf 8 = false := rfl
theorem cf9 : E.cutf 9 = false := rfl
theorem cf10 : E.cutf 10 = false := rfl
theorem cf11 : E.cutf 11 = false := rfl
theorem cf12 : E.cutf 12 = false := rfl
theorem cf13 : E.cutf 13 = false := rfl
theorem cf14 : E.cutf 14 = false := rfl
theorem cf15 : E.cutf 15 = false := rfl
theorem cf16 : E.cutf 16 = false := rfl
theorem cf17 : E.cutf 17 = false := rfl
theorem cf18 : E.cutf 18 = false := rfl
theorem cf19 : E.cutf 19 = false := rfl
theorem cf20 : E.cutf 20 = false := rfl
theorem cf21 : E.cutf 21 = false := rfl
theorem cf22 : E.cutf 22 = false := rfl
theorem cf23 : E.cutf 23 = false := rfl
theorem cf24 : E.cutf 24 = false := rfl
theorem cf25 : E.cutf 25 = false := rfl
theorem cf26 : E.cutf 26 = false := rfl
theorem cf27 : E.cutf 27 = false := rfl
theorem cf28 : E.cutf 28 = false := rfl
theorem cf29 : E.cutf 29 = false := rfl
theorem cf30 : E.cutf 30 = false := rfl
theorem cf31 : E.cutf 31 = false := rfl
theorem cf32 : E.cutf 32 = false := rfl
theorem cf33 : E.cutf 33 = false := rfl
theorem cf34 : E.cutf 34 = false := rfl
theorem cf35 : E.cutf 35 = false := rfl
theorem cf36 : E.cutf 36 = false := rfl
theorem cf37 : E.cutf 37 = false := rfl
theorem cf38 : E.cutf 38 = false := rfl
theorem cf39 : E.cutf 39 = false := rfl
theorem cf40 : E.cutf 40 = false := rfl
theorem cf41 : E.cutf 41 = false := rfl
theorem cf42 : E.cutf 42 = false := rfl
theorem cf43 : E.cutf 43 = false := rfl
theorem cf44 : E.cutf 44 = false := rfl
theorem cf45 : E.cutf 45 = false := rfl
theorem cf46 : E.cutf 46 = false := rfl
theorem cf47 : E.cutf 47 = false := rfl
theorem cf48 : E.cutf 48 = false := rfl
theorem cf49 : E.cutf 49 = false := rfl
theorem cf50 : E.cutf 50 = false := rfl
theorem cf51 : E.cutf 51 = false := rfl
theorem cf52 : E.cutf 52 = false := rfl
theorem cf53 : E.cutf 53 = false := rfl
theorem cf54 : E.cutf 54 = false := rfl
theorem cf55 : E.cutf 55 = false := rfl
theorem cf56 : E.cutf 56 = false := rfl
theorem cf57 : E.cutf 57 = false := rfl
theorem cf58 : E.cutf 58 = false := rfl
theorem cf59 : E.cutf 59 = false := rfl
theorem cf60 : E.cutf 60 = false := rfl
theorem cf61 : E.cutf 61 = false := rfl
theorem cf62 : E.cutf 62 = false := rfl
theorem cf63 : E.cutf 63 = false := rfl
theorem cf64 : E.cutf 64 = false := rfl
theorem cf65 : E.cutf 65 = false := rfl
theorem cf66 : E.cutf 66 = false := rfl
theorem cf67 : E.cutf 67 = false := rfl
theorem cf68 : E.cutf 68 = false := rfl
theorem cf69 : E.cutf 69 = false := rfl
theorem cf70 : E.cutf 70 = false := rfl
theorem cf71 : E.cutf 71 = false := rfl
theorem cf72 : E.cutf 72 = false := rfl
theorem cf73 : E.cutf 73 = false := rfl
theorem cf74 : E.cutf 74 = false := rfl
theorem cf75 : E.cutf 75 = false := rfl
theorem cf76 : E.cutf 76 = false := rfl
theorem cf77 : E.cutf 77 = false := rfl
theorem cf78 : E.cutf 78 = false := rfl
theorem cf79 : E.cutf 79 = false := rfl
theorem cf80 : E.cutf 80 = false := rfl
theorem cf81 : E.cutf 81 = false := rfl
theorem cf82 : E.cutf 82 = false := rfl
theorem cf83 : E.cutf 83 = false := rfl
theorem cf84 : E.cutf 84 = false := rfl
theorem cf85 : E.cutf 85 = false := rfl
theorem cf86 : E.cutf 86 = false := rfl
theorem cf87 : E.cutf 87 = false := rfl
theorem cf89 : E.cutf 89 = false := rfl
theorem cf90 : E.cutf 90 = false := rfl
theorem cf91 : E.cutf 91 = false := rfl
theorem cf92 : E.cutf 92 = false := rfl
theorem cf93 : E.cutf 93 = false := rfl
theorem cf94 : E.cutf 94 = false := rfl
theorem cf95 : E.cutf 95 = false := rfl
theorem cf96 : E.cutf 96 = false := rfl
theorem cf97 : E.cutf 97 = false := rfl
theorem cf98 : E.cutf 98 = false := rfl
theorem cf99 : E.cutf 99 = false := rfl
theorem cf100 : E.cutf 100 = false := rfl
theorem cf102 : E.cutf 102 = false := rfl
theorem cf103 : E.cutf 103 = false := rfl
theorem cf104 : E.cutf 104 = false := rfl
theorem cf105 : E.cutf 105 = false := rfl
theorem cf106 : E.cutf 106 = false := rfl
theorem cf107 : E.cutf 107 = false := rfl
theorem cf109 : E.cutf 109 = false := rfl
theorem cf110 : E.cutf 110 = false := rfl
theorem cf111 : E.cutf 111 = false := rfl
theorem cf112 : E.cutf 112 = false := rfl
theorem cf114 : E.cutf 114 = false := rfl
theorem cf136 : E.cutf 136 = false := rfl
theorem ct3_0 : E.cut 3 0 = none := rfl
theorem ct3_1 : E.cut 3 1 = none := rfl
theorem ct3_3 : E.cut 3 3 = none := rfl
theorem ct3_4 : E.cut 3 4 = none := rfl
theorem ct3_5 : E.cut 3 5 = none := rfl
theorem ct3_6 : E.cut 3 6 = none := rfl
theorem ct3_8 : E.cut 3 8 = some [0] := rfl
theorem ct3_9 : E.cut 3 9 = none := rfl
theorem ct3_10 : E.cut 3 10 = none := rfl
theorem ct3_11 : E.cut 3 11 = none := rfl
theorem ct3_13 : E.cut 3 13 = none := rfl
theorem ct3_14 : E.cut 3 14 = none := rfl
theorem ct3_15 : E.cut 3 15 = none := rfl
theorem ct3_16 : E.cut 3 16 = none := rfl
theorem ct3_18 : E.cut 3 18 = some [0, 8, 9, 10] := rfl
theorem ct3_19 : E.cut 3 19 = none := rfl
theorem ct3_20 : E.cut 3 20 = none := rfl
theorem ct3_22 : E.cut 3 22 = none := rfl
theorem ct3_24 : E.cut 3 24 = some [0, 8, 9, 10] := rfl
theorem ct3_25 : E.cut 3 25 = none := rfl
theorem ct3_26 : E.cut 3 26 = none := rfl
theorem ct3_28 : E.cut 3 28 = none := rfl
theorem ct3_30 : E.cut 3 30 = some [0, 8, 9, 10] := rfl
theorem ct3_31 : E.cut 3 31 = none := rfl
theorem ct5_0 : E.cut 5 0 = none := rfl
theorem ct5_1 : E.cut 5 1 = none := rfl
theorem ct5_3 : E.cut 5 3 = none := rfl
theorem ct5_4 : E.cut 5 4 = none := rfl
theorem ct5_5 : E.cut 5 5 = none := rfl
theorem ct5_6 : E.cut 5 6 = some [0, 3, 4, 5, 6, 7] := rfl
theorem ct5_8 : E.cut 5 8 = some [0, 3, 6] := rfl
theorem ct5_9 : E.cut 5 9 = none := rfl
theorem ct5_10 : E.cut 5 10 = none := rfl
theorem ct5_11 : E.cut 5 11 = none := rfl
theorem ct5_12 : E.cut 5 12 = none := rfl
theorem ct5_14 : E.cut 5 14 = some [0, 3] := rfl
theorem ct5_15 : E.cut 5 15 = none := rfl
theorem ct5_16 : E.cut 5 16 = none := rfl
theorem ct5_17 : E.cut 5 17 = none := rfl
theorem ct5_19 : E.cut 5 19 = some [0, 3, 12, 13] := rfl
theorem ct5_20 : E.cut 5 20 = none := rfl
theorem ct5_22 : E.cut 5 22 = some [0] := rfl
theorem ct5_23 : E.cut 5 23 = none := rfl
theorem ct5_24 : E.cut 5 24 = none := rfl
theorem ct5_26 : E.cut 5 26 = none := rfl
theorem ct5_27 : E.cut 5 27 = none := rfl
theorem wk2 : E.wk 2 = none := rfl
theorem wk3 : E.wk 3 = none := rfl
theorem wk4 : E.wk 4 = none := rfl
theorem wk5 : E.wk 5 = none := rfl
theorem wk6 : E.wk 6 = none := rfl
theorem wk7 : E.wk 7 = none := rfl
theorem wk8 : E.wk 8 = some 1 := rfl
theorem wk9 : E.wk 9 = some 1 := rfl
theorem wk10 : E.wk 10 = some 1 := rfl
theorem wk11 : E.wk 11 = some 1 := rfl
theorem wk12 : E.wk 12 = none := rfl
theorem wk13 : E.wk 13 = some 1 := rfl
theorem wk14 : E.wk 14 = some 1 := rfl
theorem wk15 : E.wk 15 = some 1 := rfl
theorem wk16 : E.wk 16 = some 1 := rfl
theorem wk17 : E.wk 17 = none := rfl
theorem wk18 : E.wk 18 = none := rfl
theorem wk19 : E.wk 19 = some 1 := rfl
theorem wk20 : E.wk 20 = none := rfl
theorem wk21 : E.wk 21 = none := rfl
theorem wk22 : E.wk 22 = some 4 := rfl
theorem wk23 : E.wk 23 = none := rfl
theorem wk24 : E.wk 24 = none := rfl
theorem wk25 : E.wk 25 = none := rfl
theorem wk26 : E.wk 26 = none := rfl
theorem wk27 : E.wk 27 = none := rfl
theorem wk28 : E.wk 28 = none := rfl
theorem wk29 : E.wk 29 = none := rfl
theorem wk30 : E.wk 30 = none := rfl
theorem wk31 : E.wk 31 = none := rfl
theorem wk32 : E.wk 32 = none := rfl
theorem wk33 : E.wk 33 = none := rfl
theorem wk34 : E.wk 34 = none := rfl
theorem wk35 : E.wk 35 = none := rfl
theorem wk36 : E.wk 36 = none := rfl
theorem wk37 : E.wk 37 = some 1 := rfl
theorem wk38 : E.wk 38 = none := rfl
theorem wk39 : E.wk 39 = none := rfl
theorem wk40 : E.wk 40 = none := rfl
theorem wk41 : E.wk 41 = none := rfl
theorem wk42 : E.wk 42 = none := rfl
theorem wk43 : E.wk 43 = none := rfl
theorem wk44 : E.wk 44 = none := rfl
theorem wk45 : E.wk 45 = none := rfl
theorem wk46 : E.wk 46 = none := rfl
theorem wk47 : E.wk 47 = none := rfl
theorem wk48 : E.wk 48 = none := rfl
theorem wk49 : E.wk 49 = some 1 := rfl
theorem wk50 : E.wk 50 = none := rfl
theorem wk51 : E.wk 51 = none := rfl
theorem wk52 : E.wk 52 = none := rfl
theorem wk53 : E.wk 53 = none := rfl
theorem wk54 : E.wk 54 = some 1 := rfl
theorem wk55 : E.wk 55 = none := rfl
theorem wk56 : E.wk 56 = none := rfl
theorem wk57 : E.wk 57 = none := rfl
theorem wk58 : E.wk 58 = none := rfl
theorem wk59 : E.wk 59 = none := rfl
theorem wk60 : E.wk 60 = none := rfl
theorem wk61 : E.wk 61 = none := rfl
theorem wk62 : E.wk 62 = none := rfl
theorem wk63 : E.wk 63 = none := rfl
theorem wk64 : E.wk 64 = none := rfl
theorem wk65 : E.wk 65 = none := rfl
theorem wk66 : E.wk 66 = none := rfl
theorem wk67 : E.wk 67 = none := rfl
theorem wk68 : E.wk 68 = some 4 := rfl
theorem wk69 : E.wk 69 = none := rfl
theorem wk70 : E.wk 70 = none := rfl
theorem wk71 : E.wk 71 = none := rfl
theorem wk72 : E.wk 72 = none := rfl
theorem wk73 : E.wk 73 = none := rfl
theorem wk74 : E.wk 74 = none := rfl
theorem wk75 : E.wk 75 = none := rfl
theorem wk76 : E.wk 76 = none := rfl
theorem wk77 : E.wk 77 = none := rfl
theorem wk78 : E.wk 78 = none := rfl
theorem wk79 : E.wk 79 = none := rfl
theorem wk80 : E.wk 80 = none := rfl
theorem wk81 : E.wk 81 = none := rfl
theorem wk82 : E.wk 82 = none := rfl
theorem wk83 : E.wk 83 = none := rfl
theorem wk84 : E.wk 84 = none := rfl
theorem wk85 : E.wk 85 = none := rfl
theorem wk86 : E.wk 86 = none := rfl
theorem wk87 : E.wk 87 = none := rfl
theorem wk89 : E.wk 89 = none := rfl
theorem wk90 : E.wk 90 = none := rfl
theorem wk91 : E.wk 91 = none := rfl
theorem wk92 : E.wk 92 = none := rfl
theorem wk93 : E.wk 93 = none := rfl
theorem wk94 : E.wk 94 = none := rfl
theorem wk95 : E.wk 95 = none := rfl
theorem wk96 : E.wk 96 = none := rfl
theorem wk97 : E.wk 97 = none := rfl
theorem wk98 : E.wk 98 = none := rfl
theorem wk99 : E.wk 99 = none := rfl
theorem wk100 : E.wk 100 = none := rfl
theorem wk102 : E.wk 102 = none := rfl
theorem wk103 : E.wk 103 = none := rfl
theorem wk104 : E.wk 104 = none := rfl
theorem wk105 : E.wk 105 = none := rfl
theorem wk106 : E.wk 106 = none := rfl
theorem wk107 : E.wk 107 = none := rfl
theorem wk109 : E.wk 109 = none := rfl
theorem wk110 : E.wk 110 = none := rfl
theorem wk111 : E.wk 111 = none := rfl
theorem wk112 : E.wk 112 = none := rfl
theorem wk114 : E.wk 114 = none := rfl
theorem wk136 : E.wk 136 = none := rfl

theorem rowsOK : rows.all (fun p => rowB Tryd.prog p.1 p.2) = true := by kernel_rfl
theorem EOK : E.OK Tryd.prog := fun t r h => rows_ok (E := E) rowsOK t r h

theorem fb2 : funcB Tryd.f2 = true := by kernel_rfl
theorem fb3 : funcB Tryd.f3 = true := by kernel_rfl
theorem fb4 : funcB Tryd.f4 = true := by kernel_rfl
theorem fb5 : funcB Tryd.f5 = true := by kernel_rfl
theorem fb6 : funcB Tryd.f6 = true := by kernel_rfl
theorem fb7 : funcB Tryd.f7 = true := by kernel_rfl
theorem fb8 : funcB Tryd.f8 = true := by kernel_rfl
theorem fb9 : funcB Tryd.f9 = true := by kernel_rfl
theorem fb10 : funcB Tryd.f10 = true := by kernel_rfl
theorem fb11 : funcB Tryd.f11 = true := by kernel_rfl
theorem fb12 : funcB Tryd.f12 = true := by kernel_rfl
theorem fb13 : funcB Tryd.f13 = true := by kernel_rfl
theorem fb14 : funcB Tryd.f14 = true := by kernel_rfl
theorem fb15 : funcB Tryd.f15 = true := by kernel_rfl
theorem fb16 : funcB Tryd.f16 = true := by kernel_rfl
theorem fb17 : funcB Tryd.f17 = true := by kernel_rfl
theorem fb18 : funcB Tryd.f18 = true := by kernel_rfl
theorem fb19 : funcB Tryd.f19 = true := by kernel_rfl
theorem fb20 : funcB Tryd.f20 = true := by kernel_rfl
theorem fb21 : funcB Tryd.f21 = true := by kernel_rfl
theorem fb22 : funcB Tryd.f22 = true := by kernel_rfl
theorem fb23 : funcB Tryd.f23 = true := by kernel_rfl
theorem fb24 : funcB Tryd.f24 = true := by kernel_rfl
theorem fb25 : funcB Tryd.f25 = true := by kernel_rfl
theorem fb26 : funcB Tryd.f26 = true := by kernel_rfl
theorem fb27 : funcB Tryd.f27 = true := by kernel_rfl
theorem fb28 : funcB Tryd.f28 = true := by kernel_rfl
theorem fb29 : funcB Tryd.f29 = true := by kernel_rfl
theorem fb30 : funcB Tryd.f30 = true := by kernel_rfl
theorem fb31 : funcB Tryd.f31 = true := by kernel_rfl
theorem fb32 : funcB Tryd.f32 = true := by kernel_rfl
theorem fb33 : funcB Tryd.f33 = true := by kernel_rfl
theorem fb34 : funcB Tryd.f34 = true := by kernel_rfl
theorem fb35 : funcB Tryd.f35 = true := by kernel_rfl
theorem fb36 : funcB Tryd.f36 = true := by kernel_rfl
theorem fb37 : funcB Tryd.f37 = true := by kernel_rfl
theorem fb38 : funcB Tryd.f38 = true := by kernel_rfl
theorem fb39 : funcB Tryd.f39 = true := by kernel_rfl
theorem fb40 : funcB Tryd.f40 = true := by kernel_rfl
theorem fb41 : funcB Tryd.f41 = true := by kernel_rfl
theorem fb42 : funcB Tryd.f42 = true := by kernel_rfl
theorem fb43 : funcB Tryd.f43 = true := by kernel_rfl
theorem fb44 : funcB Tryd.f44 = true := by kernel_rfl
theorem fb45 : funcB Tryd.f45 = true := by kernel_rfl
theorem fb46 : funcB Tryd.f46 = true := by kernel_rfl
theorem fb47 : funcB Tryd.f47 = true := by kernel_rfl
theorem fb48 : funcB Tryd.f48 = true := by kernel_rfl
theorem fb49 : funcB Tryd.f49 = true := by kernel_rfl
theorem fb50 : funcB Tryd.f50 = true := by kernel_rfl
theorem fb51 : funcB Tryd.f51 = true := by kernel_rfl
theorem fb52 : funcB Tryd.f52 = true := by kernel_rfl
theorem fb53 : funcB Tryd.f53 = true := by kernel_rfl
theorem fb54 : funcB Tryd.f54 = true := by kernel_rfl
theorem fb55 : funcB Tryd.f55 = true := by kernel_rfl
theorem fb56 : funcB Tryd.f56 = true := by kernel_rfl
theorem fb57 : funcB Tryd.f57 = true := by kernel_rfl
theorem fb58 : funcB Tryd.f58 = true := by kernel_rfl
theorem fb59 : funcB Tryd.f59 = true := by kernel_rfl
theorem fb60 : funcB Tryd.f60 = true := by kernel_rfl
theorem fb61 : funcB Tryd.f61 = true := by kernel_rfl
theorem fb62 : funcB Tryd.f62 = true := by kernel_rfl
theorem fb63 : funcB Tryd.f63 = true := by kernel_rfl
theorem fb64 : funcB Tryd.f64 = true := by kernel_rfl
theorem fb65 : funcB Tryd.f65 = true := by kernel_rfl
theorem fb66 : funcB Tryd.f66 = true := by kernel_rfl
theorem fb67 : funcB Tryd.f67 = true := by kernel_rfl
theorem fb68 : funcB Tryd.f68 = true := by kernel_rfl
theorem fb69 : funcB Tryd.f69 = true := by kernel_rfl
theorem fb70 : funcB Tryd.f70 = true := by kernel_rfl
theorem fb71 : funcB Tryd.f71 = true := by kernel_rfl
theorem fb72 : funcB Tryd.f72 = true := by kernel_rfl
theorem fb73 : funcB Tryd.f73 = true := by kernel_rfl
theorem fb74 : funcB Tryd.f74 = true := by kernel_rfl
theorem fb75 : funcB Tryd.f75 = true := by kernel_rfl
theorem fb76 : funcB Tryd.f76 = true := by kernel_rfl
theorem fb77 : funcB Tryd.f77 = true := by kernel_rfl
theorem fb78 : funcB Tryd.f78 = true := by kernel_rfl
theorem fb79 : funcB Tryd.f79 = true := by kernel_rfl
theorem fb80 : funcB Tryd.f80 = true := by kernel_rfl
theorem fb81 : funcB Tryd.f81 = true := by kernel_rfl
theorem fb82 : funcB Tryd.f82 = true := by kernel_rfl
theorem fb83 : funcB Tryd.f83 = true := by kernel_rfl
theorem fb84 : funcB Tryd.f84 = true := by kernel_rfl
theorem fb85 : funcB Tryd.f85 = true := by kernel_rfl
theorem fb86 : funcB Tryd.f86 = true := by kernel_rfl
theorem fb87 : funcB Tryd.f87 = true := by kernel_rfl
theorem fb89 : funcB Tryd.f89 = true := by kernel_rfl
theorem fb90 : funcB Tryd.f90 = true := by kernel_rfl
theorem fb91 : funcB Tryd.f91 = true := by kernel_rfl
theorem fb92 : funcB Tryd.f92 = true := by kernel_rfl
theorem fb93 : funcB Tryd.f93 = true := by kernel_rfl
theorem fb94 : funcB Tryd.f94 = true := by kernel_rfl
theorem fb95 : funcB Tryd.f95 = true := by kernel_rfl
theorem fb96 : funcB Tryd.f96 = true := by kernel_rfl
theorem fb97 : funcB Tryd.f97 = true := by kernel_rfl
theorem fb98 : funcB Tryd.f98 = true := by kernel_rfl
theorem fb99 : funcB Tryd.f99 = true := by kernel_rfl
theorem fb100 : funcB Tryd.f100 = true := by kernel_rfl
theorem fb102 : funcB Tryd.f102 = true := by kernel_rfl
theorem fb103 : funcB Tryd.f103 = true := by kernel_rfl
theorem fb104 : funcB Tryd.f104 = true := by kernel_rfl
theorem fb105 : funcB Tryd.f105 = true := by kernel_rfl
theorem fb106 : funcB Tryd.f106 = true := by kernel_rfl
theorem fb107 : funcB Tryd.f107 = true := by kernel_rfl
theorem fb109 : funcB Tryd.f109 = true := by kernel_rfl
theorem fb110 : funcB Tryd.f110 = true := by kernel_rfl
theorem fb111 : funcB Tryd.f111 = true := by kernel_rfl
theorem fb112 : funcB Tryd.f112 = true := by kernel_rfl
theorem fb114 : funcB Tryd.f114 = true := by kernel_rfl
theorem fb136 : funcB Tryd.f136 = true := by kernel_rfl
theorem EB : E.Bodies Tryd.prog := ⟨fun f c rs h => bodies_ok (l := funs) (by
  intro p hp
  simp only [funs, List.mem_cons, List.not_mem_nil, or_false] at hp
  rcases hp with rfl | rfl | rfl | rfl | rfl | rfl | rfl | rfl | rfl | rfl | rfl | rfl | rfl | rfl | rfl | rfl | rfl | rfl | rfl | rfl | rfl | rfl | rfl | rfl | rfl | rfl | rfl | rfl | rfl | rfl | rfl | rfl | rfl | rfl | rfl | rfl | rfl | rfl | rfl | rfl | rfl | rfl | rfl | rfl | rfl | rfl | rfl | rfl | rfl | rfl | rfl | rfl | rfl | rfl | rfl | rfl | rfl | rfl | rfl | rfl | rfl | rfl | rfl | rfl | rfl | rfl | rfl | rfl | rfl | rfl | rfl | rfl | rfl | rfl | rfl | rfl | rfl | rfl | rfl | rfl | rfl | rfl | rfl | rfl | rfl | rfl | rfl | rfl | rfl | rfl | rfl | rfl | rfl | rfl | rfl | rfl | rfl | rfl | rfl | rfl | rfl | rfl | rfl | rfl | rfl | rfl | rfl | rfl | rfl | rfl
  · exact ⟨Tryd.func2, fb2⟩
  · exact ⟨Tryd.func3, fb3⟩
  · exact ⟨Tryd.func4, fb4⟩
  · exact ⟨Tryd.func5, fb5⟩
  · exact ⟨Tryd.func6, fb6⟩
  · exact ⟨Tryd.func7, fb7⟩
  · exact ⟨Tryd.func8, fb8⟩
  · exact ⟨Tryd.func9, fb9⟩
  · exact ⟨Tryd.func10, fb10⟩
  · exact ⟨Tryd.func11, fb11⟩
  · exact ⟨Tryd.func12, fb12⟩
  · exact ⟨Tryd.func13, fb13⟩
  · exact ⟨Tryd.func14, fb14⟩
  · exact ⟨Tryd.func15, fb15⟩
  · exact ⟨Tryd.func16, fb16⟩
  · exact ⟨Tryd.func17, fb17⟩
  · exact ⟨Tryd.func18, fb18⟩
  · exact ⟨Tryd.func19, fb19⟩
  · exact ⟨Tryd.func20, fb20⟩
  · exact ⟨Tryd.func21, fb21⟩
  · exact ⟨Tryd.func22, fb22⟩
  · exact ⟨Tryd.func23, fb23⟩
  · exact ⟨Tryd.func24, fb24⟩
  · exact ⟨Tryd.func25, fb25⟩
  · exact ⟨Tryd.func26, fb26⟩
  · exact ⟨Tryd.func27, fb27⟩
  · exact ⟨Tryd.func28, fb28⟩
  · exact ⟨Tryd.func29, fb29⟩
  · exact ⟨Tryd.func30, fb30⟩
  · exact ⟨Tryd.func31, fb31⟩
  · exact ⟨Tryd.func32, fb32⟩
  · exact ⟨Tryd.func33, fb33⟩
  · exact ⟨Tryd.func34, fb34⟩
  · exact ⟨Tryd.func35, fb35⟩
  · exact ⟨Tryd.func36, fb36⟩
  · exact ⟨Tryd.func37, fb37⟩
  · exact ⟨Tryd.func38, fb38⟩
  · exact ⟨Tryd.func39, fb39⟩
  · exact ⟨Tryd.func40, fb40⟩
  · exact ⟨Tryd.func41, fb41⟩
  · exact ⟨Tryd.func42, fb42⟩
  · exact ⟨Tryd.func43, fb43⟩
  · exact ⟨Tryd.func44, fb44⟩
  · exact ⟨Tryd.func45, fb45⟩
  · exact ⟨Tryd.func46, fb46⟩
  · exact ⟨Tryd.func47, fb47⟩
  · exact ⟨Tryd.func48, fb48⟩
  · exact ⟨Tryd.func49, fb49⟩
  · exact ⟨Tryd.func50, fb50⟩
  · exact ⟨Tryd.func51, fb51⟩
  · exact ⟨Tryd.func52, fb52⟩
  · exact ⟨Tryd.func53, fb53⟩
  · exact ⟨Tryd.func54, fb54⟩
  · exact ⟨Tryd.func55, fb55⟩
  · exact ⟨Tryd.func56, fb56⟩
  · exact ⟨Tryd.func57, fb57⟩
  · exact ⟨Tryd.func58, fb58⟩
  · exact ⟨Tryd.func59, fb59⟩
  · exact ⟨Tryd.func60, fb60⟩
  · exact ⟨Tryd.func61, fb61⟩
  · exact ⟨Tryd.func62, fb62⟩
  · exact ⟨Tryd.func63, fb63⟩
  · exact ⟨Tryd.func64, fb64⟩
  · exact ⟨Tryd.func65, fb65⟩
  · exact ⟨Tryd.func66, fb66⟩
  · exact ⟨Tryd.func67, fb67⟩
  · exact ⟨Tryd.func68, fb68⟩
  · exact ⟨Tryd.func69, fb69⟩
  · exact ⟨Tryd.func70, fb70⟩
  · exact ⟨Tryd.func71, fb71⟩
  · exact ⟨Tryd.func72, fb72⟩
  · exact ⟨Tryd.func73, fb73⟩
  · exact ⟨Tryd.func74, fb74⟩
  · exact ⟨Tryd.func75, fb75⟩
  · exact ⟨Tryd.func76, fb76⟩
  · exact ⟨Tryd.func77, fb77⟩
  · exact ⟨Tryd.func78, fb78⟩
  · exact ⟨Tryd.func79, fb79⟩
  · exact ⟨Tryd.func80, fb80⟩
  · exact ⟨Tryd.func81, fb81⟩
  · exact ⟨Tryd.func82, fb82⟩
  · exact ⟨Tryd.func83, fb83⟩
  · exact ⟨Tryd.func84, fb84⟩
  · exact ⟨Tryd.func85, fb85⟩
  · exact ⟨Tryd.func86, fb86⟩
  · exact ⟨Tryd.func87, fb87⟩
  · exact ⟨Tryd.func89, fb89⟩
  · exact ⟨Tryd.func90, fb90⟩
  · exact ⟨Tryd.func91, fb91⟩
  · exact ⟨Tryd.func92, fb92⟩
  · exact ⟨Tryd.func93, fb93⟩
  · exact ⟨Tryd.func94, fb94⟩
  · exact ⟨Tryd.func95, fb95⟩
  · exact ⟨Tryd.func96, fb96⟩
  · exact ⟨Tryd.func97, fb97⟩
  · exact ⟨Tryd.func98, fb98⟩
  · exact ⟨Tryd.func99, fb99⟩
  · exact ⟨Tryd.func100, fb100⟩
  · exact ⟨Tryd.func102, fb102⟩
  · exact ⟨Tryd.func103, fb103⟩
  · exact ⟨Tryd.func104, fb104⟩
  · exact ⟨Tryd.func105, fb105⟩
  · exact ⟨Tryd.func106, fb106⟩
  · exact ⟨Tryd.func107, fb107⟩
  · exact ⟨Tryd.func109, fb109⟩
  · exact ⟨Tryd.func110, fb110⟩
  · exact ⟨Tryd.func111, fb111⟩
  · exact ⟨Tryd.func112, fb112⟩
  · exact ⟨Tryd.func114, fb114⟩
  · exact ⟨Tryd.func136, fb136⟩) f c rs h⟩
theorem EP : Tryd.prog.follows .mixedOrders = true := by kernel_rfl
theorem EH : OrcOK Tryd.prog E.hand := (hand2_ok (handC_ok Tryd.func101 (by kernel_rfl) (by kernel_rfl) (by kernel_rfl) (by kernel_rfl)) (handO_ok (z := 4) (tS := 43) (tR := 4) (e := 51) Tryd.func88 (by kernel_rfl) (by kernel_rfl) (by kernel_rfl) (by kernel_rfl) (by kernel_rfl) (EOK _ _ r51)))
theorem ecmp (d : Nat) (a b : ByteArray) : evFun E (d+1) 101 [.val (.string a), .val (.string b)] [] = some (.val (.int .i64 (Lib.compareBytes a.data.toList b.data.toList)), []) := by
  have h : E.body 101 = none := rfl
  simp only [evFun, h]
  have e : E.hand = (hand2 (handC 101) (handO 88 4)) := rfl
  rw [e]
  simp only [hand2, handC_eq]
theorem eovl88 (d : Nat) (c1 cap : Option Nat) (es ds : List AV) (off n : Nat) (hs : qf2 ds = true) : evFun E (d+1) 88 [.sl .snap 4 1 c1 es, .ref 0 [] 4 off n cap] [ds] = some (.val (.bool false), [some ds]) := by
  have h : E.body 88 = none := rfl
  simp only [evFun, h]
  have e : E.hand = (hand2 (handC 101) (handO 88 4)) := rfl
  rw [e]
  have hz : decide (2 ≤ 4) = true := rfl
  simp only [hand2, show ∀ args cts, handC 101 88 args cts = none from fun _ _ => rfl, handO_eq _ _ _ _ _ _ _ _ hz hs]
def rr0 := And.intro @r1 (And.intro @r2 (And.intro @r3 (And.intro @r4 (And.intro @r5 (And.intro @r6 (And.intro @r7 (And.intro @r8 (And.intro @r9 (And.intro @r10 (And.intro @r11 (And.intro @r12 (And.intro @r13 (And.intro @r14 (And.intro @r15 (And.intro @r16 (And.intro @r17 (And.intro @r18 (And.intro @r19 (And.intro @r21 (And.intro @r22 (And.intro @r23 (And.intro @r24 (And.intro @r25 (And.intro @r26 (And.intro @r28 (And.intro @r30 (And.intro @r31 (And.intro @r32 (And.intro @r33 (And.intro @r34 (And.intro @r35 (And.intro @r36 (And.intro @r38 (And.intro @r39 (And.intro @r40 (And.intro @r41 (And.intro @r42 (And.intro @r43 (And.intro @r45 (And.intro @r46 (And.intro @r48 (And.intro @r49 (And.intro @r50 (And.intro @r51 (And.intro @r53 (And.intro @r54 (And.intro @r55 (And.intro @r57 (And.intro @r58 (And.intro @r59 (And.intro @r60 (And.intro @r61 (And.intro @r62 (And.intro @r63 (And.intro @r64 (And.intro @r65 (And.intro @r66 (And.intro @r67 (And.intro @r68 (And.intro @r69 (And.intro @r70 (And.intro @r71 (And.intro @r72 (And.intro @r73 (And.intro @r74 (And.intro @r75 (And.intro @r76 (And.intro @r77 (And.intro @r78 (And.intro @r79 (And.intro @r81 (And.intro @r82 (And.intro @r83 (And.intro @r84 (And.intro @r86 (And.intro @r87 (And.intro @r88 (And.intro @r89 (And.intro @r90 (And.intro @r91 (And.intro @r92 (And.intro @r93 (And.intro @r94 (And.intro @r95 (And.intro @r96 (And.intro @r97 (And.intro @r98 (And.intro @r99 (And.intro @r100 (And.intro @r101 (And.intro @r102 (And.intro @r103 (And.intro @r104 (And.intro @r105 (And.intro @r106 (And.intro @r107 (And.intro @r108 (And.intro @r109 (And.intro @r110 (And.intro @r111 (And.intro @r112 (And.intro @r113 (And.intro @r115 (And.intro @r116 (And.intro @r117 (And.intro @r118 (And.intro @r119 (And.intro @r121 (And.intro @r122 (And.intro @r123 (And.intro @r124 (And.intro @r125 (And.intro @r126 (And.intro @r127 (And.intro @r128 (And.intro @r129 (And.intro @r130 (And.intro @r131 (And.intro @r132 (And.intro @r133 (And.intro @r137 (And.intro @r138 (And.intro @r139 (And.intro @r140 (And.intro @r141 (And.intro @r142 (And.intro @r143 (And.intro @r144 (And.intro @r145 (And.intro @r146 (And.intro @lv3_14 (And.intro @lv4_11 (And.intro @lv4_18 (And.intro @lv5_9 (And.intro @lv15_4 (And.intro @lv21_5 (And.intro @lv22_5 (And.intro @lv23_2 (And.intro @lv24_2 (And.intro @lv28_5 (And.intro @lv31_5 (And.intro @lv34_3 (And.intro @lv36_3 (And.intro @lv38_2 (And.intro @lv43_4 (And.intro @lv44_5 (And.intro @lv45_4 (And.intro @lv49_9 (@lv57_11)))))))))))))))))))))))))))))))))))))))))))))))))))))))))))))))))))))))))))))))))))))))))))))))))))))))))))))))))))))))))))))))))))))))))))))))))))))
def rr1 := And.intro @lv61_3 (And.intro @lv64_3 (And.intro @lv65_3 (And.intro @lv71_5 (And.intro @lv74_3 (And.intro @lv77_3 (And.intro @lv77_11 (And.intro @lv80_2 (And.intro @lv81_5 (And.intro @lv82_2 (And.intro @lv83_3 (And.intro @lv87_3 (And.intro @lv94_1 (And.intro @lv95_1 (And.intro @lv96_2 (And.intro @lv97_1 (And.intro @lv98_1 (And.intro @lv99_1 (And.intro @lv100_1 (And.intro @lv102_1 (And.intro @lv106_10 (And.intro @ld2 (And.intro @ld3 (And.intro @ld4 (And.intro @ld5 (And.intro @ld6 (And.intro @ld7 (And.intro @ld8 (And.intro @ld9 (And.intro @ld10 (And.intro @ld11 (And.intro @ld12 (And.intro @ld13 (And.intro @ld14 (And.intro @ld15 (And.intro @ld16 (And.intro @ld17 (And.intro @ld18 (And.intro @ld19 (And.intro @ld20 (And.intro @ld21 (And.intro @ld22 (And.intro @ld23 (And.intro @ld24 (And.intro @ld25 (And.intro @ld26 (And.intro @ld27 (And.intro @ld28 (And.intro @ld29 (And.intro @ld30 (And.intro @ld31 (And.intro @ld32 (And.intro @ld33 (And.intro @ld34 (And.intro @ld35 (And.intro @ld36 (And.intro @ld37 (And.intro @ld38 (And.intro @ld39 (And.intro @ld40 (And.intro @ld41 (And.intro @ld42 (And.intro @ld43 (And.intro @ld44 (And.intro @ld45 (And.intro @ld46 (And.intro @ld47 (And.intro @ld48 (And.intro @ld49 (And.intro @ld50 (And.intro @ld51 (And.intro @ld52 (And.intro @ld53 (And.intro @ld54 (And.intro @ld55 (And.intro @ld56 (And.intro @ld57 (And.intro @ld58 (And.intro @ld59 (And.intro @ld60 (And.intro @ld61 (And.intro @ld62 (And.intro @ld63 (And.intro @ld64 (And.intro @ld65 (And.intro @ld66 (And.intro @ld67 (And.intro @ld68 (And.intro @ld69 (And.intro @ld70 (And.intro @ld71 (And.intro @ld72 (And.intro @ld73 (And.intro @ld74 (And.intro @ld75 (And.intro @ld76 (And.intro @ld77 (And.intro @ld78 (And.intro @ld79 (And.intro @ld80 (And.intro @ld81 (And.intro @ld82 (And.intro @ld83 (And.intro @ld84 (And.intro @ld85 (And.intro @ld86 (And.intro @ld87 (And.intro @ld89 (And.intro @ld90 (And.intro @ld91 (And.intro @ld92 (And.intro @ld93 (And.intro @ld94 (And.intro @ld95 (And.intro @ld96 (And.intro @ld97 (And.intro @ld98 (And.intro @ld99 (And.intro @ld100 (And.intro @ld102 (And.intro @ld103 (And.intro @ld104 (And.intro @ld105 (And.intro @ld106 (And.intro @ld107 (And.intro @ld109 (And.intro @ld110 (And.intro @ld111 (And.intro @ld112 (And.intro @ld114 (And.intro @ld136 (And.intro @wk2 (And.intro @wk3 (And.intro @wk4 (And.intro @wk5 (And.intro @wk6 (And.intro @wk7 (And.intro @wk8 (And.intro @wk9 (And.intro @wk10 (And.intro @wk11 (And.intro @wk12 (And.intro @wk13 (And.intro @wk14 (And.intro @wk15 (And.intro @wk16 (And.intro @wk17 (And.intro @wk18 (And.intro @wk19 (@wk20)))))))))))))))))))))))))))))))))))))))))))))))))))))))))))))))))))))))))))))))))))))))))))))))))))))))))))))))))))))))))))))))))))))))))))))))))))))
def rr2 := And.intro @wk21 (And.intro @wk22 (And.intro @wk23 (And.intro @wk24 (And.intro @wk25 (And.intro @wk26 (And.intro @wk27 (And.intro @wk28 (And.intro @wk29 (And.intro @wk30 (And.intro @wk31 (And.intro @wk32 (And.intro @wk33 (And.intro @wk34 (And.intro @wk35 (And.intro @wk36 (And.intro @wk37 (And.intro @wk38 (And.intro @wk39 (And.intro @wk40 (And.intro @wk41 (And.intro @wk42 (And.intro @wk43 (And.intro @wk44 (And.intro @wk45 (And.intro @wk46 (And.intro @wk47 (And.intro @wk48 (And.intro @wk49 (And.intro @wk50 (And.intro @wk51 (And.intro @wk52 (And.intro @wk53 (And.intro @wk54 (And.intro @wk55 (And.intro @wk56 (And.intro @wk57 (And.intro @wk58 (And.intro @wk59 (And.intro @wk60 (And.intro @wk61 (And.intro @wk62 (And.intro @wk63 (And.intro @wk64 (And.intro @wk65 (And.intro @wk66 (And.intro @wk67 (And.intro @wk68 (And.intro @wk69 (And.intro @wk70 (And.intro @wk71 (And.intro @wk72 (And.intro @wk73 (And.intro @wk74 (And.intro @wk75 (And.intro @wk76 (And.intro @wk77 (And.intro @wk78 (And.intro @wk79 (And.intro @wk80 (And.intro @wk81 (And.intro @wk82 (And.intro @wk83 (And.intro @wk84 (And.intro @wk85 (And.intro @wk86 (And.intro @wk87 (And.intro @wk89 (And.intro @wk90 (And.intro @wk91 (And.intro @wk92 (And.intro @wk93 (And.intro @wk94 (And.intro @wk95 (And.intro @wk96 (And.intro @wk97 (And.intro @wk98 (And.intro @wk99 (And.intro @wk100 (And.intro @wk102 (And.intro @wk103 (And.intro @wk104 (And.intro @wk105 (And.intro @wk106 (And.intro @wk107 (And.intro @wk109 (And.intro @wk110 (And.intro @wk111 (And.intro @wk112 (And.intro @wk114 (And.intro @wk136 (And.intro @bf2 (And.intro @bf3 (And.intro @bf4 (And.intro @bf5 (And.intro @bf6 (And.intro @bf7 (And.intro @bf8 (And.intro @bf9 (And.intro @bf10 (And.intro @bf11 (And.intro @bf12 (And.intro @bf13 (And.intro @bf14 (And.intro @bf15 (And.intro @bf16 (And.intro @bf17 (And.intro @bf18 (And.intro @bf19 (And.intro @bf20 (And.intro @bf21 (And.intro @bf22 (And.intro @bf23 (And.intro @bf24 (And.intro @bf25 (And.intro @bf26 (And.intro @bf27 (And.intro @bf28 (And.intro @bf29 (And.intro @bf30 (And.intro @bf31 (And.intro @bf32 (And.intro @bf33 (And.intro @bf34 (And.intro @bf35 (And.intro @bf36 (And.intro @bf37 (And.intro @bf38 (And.intro @bf39 (And.intro @bf40 (And.intro @bf41 (And.intro @bf42 (And.intro @bf43 (And.intro @bf44 (And.intro @bf45 (And.intro @bf46 (And.intro @bf47 (And.intro @bf48 (And.intro @bf49 (And.intro @bf50 (And.intro @bf51 (And.intro @bf52 (And.intro @bf53 (And.intro @bf54 (And.intro @bf55 (And.intro @bf56 (And.intro @bf57 (And.intro @bf58 (And.intro @bf59 (@bf60)))))))))))))))))))))))))))))))))))))))))))))))))))))))))))))))))))))))))))))))))))))))))))))))))))))))))))))))))))))))))))))))))))))))))))))))))))))
def rr3 := And.intro @bf61 (And.intro @bf62 (And.intro @bf63 (And.intro @bf64 (And.intro @bf65 (And.intro @bf66 (And.intro @bf67 (And.intro @bf68 (And.intro @bf69 (And.intro @bf70 (And.intro @bf71 (And.intro @bf72 (And.intro @bf73 (And.intro @bf74 (And.intro @bf75 (And.intro @bf76 (And.intro @bf77 (And.intro @bf78 (And.intro @bf79 (And.intro @bf80 (And.intro @bf81 (And.intro @bf82 (And.intro @bf83 (And.intro @bf84 (And.intro @bf85 (And.intro @bf86 (And.intro @bf87 (And.intro @bf89 (And.intro @bf90 (And.intro @bf91 (And.intro @bf92 (And.intro @bf93 (And.intro @bf94 (And.intro @bf95 (And.intro @bf96 (And.intro @bf97 (And.intro @bf98 (And.intro @bf99 (And.intro @bf100 (And.intro @bf102 (And.intro @bf103 (And.intro @bf104 (And.intro @bf105 (And.intro @bf106 (And.intro @bf107 (And.intro @bf109 (And.intro @bf110 (And.intro @bf111 (And.intro @bf112 (And.intro @bf114 (And.intro @bf136 (And.intro @nf2 (And.intro @nf3 (And.intro @nf4 (And.intro @nf5 (And.intro @nf6 (And.intro @nf7 (And.intro @nf8 (And.intro @nf9 (And.intro @nf10 (And.intro @nf11 (And.intro @nf12 (And.intro @nf13 (And.intro @nf14 (And.intro @nf15 (And.intro @nf16 (And.intro @nf17 (And.intro @nf18 (And.intro @nf19 (And.intro @nf20 (And.intro @nf21 (And.intro @nf22 (And.intro @nf23 (And.intro @nf24 (And.intro @nf25 (And.intro @nf26 (And.intro @nf27 (And.intro @nf28 (And.intro @nf29 (And.intro @nf30 (And.intro @nf31 (And.intro @nf32 (And.intro @nf33 (And.intro @nf34 (And.intro @nf35 (And.intro @nf36 (And.intro @nf37 (And.intro @nf38 (And.intro @nf39 (And.intro @nf40 (And.intro @nf41 (And.intro @nf42 (And.intro @nf43 (And.intro @nf44 (And.intro @nf45 (And.intro @nf46 (And.intro @nf47 (And.intro @nf48 (And.intro @nf49 (And.intro @nf50 (And.intro @nf51 (And.intro @nf52 (And.intro @nf53 (And.intro @nf54 (And.intro @nf55 (And.intro @nf56 (And.intro @nf57 (And.intro @nf58 (And.intro @nf59 (And.intro @nf60 (And.intro @nf61 (And.intro @nf62 (And.intro @nf63 (And.intro @nf64 (And.intro @nf65 (And.intro @nf66 (And.intro @nf67 (And.intro @nf68 (And.intro @nf69 (And.intro @nf70 (And.intro @nf71 (And.intro @nf72 (And.intro @nf73 (And.intro @nf74 (And.intro @nf75 (And.intro @nf76 (And.intro @nf77 (And.intro @nf78 (And.intro @nf79 (And.intro @nf80 (And.intro @nf81 (And.intro @nf82 (And.intro @nf83 (And.intro @nf84 (And.intro @nf85 (And.intro @nf86 (And.intro @nf87 (And.intro @nf89 (And.intro @nf90 (And.intro @nf91 (And.intro @nf92 (And.intro @nf93 (And.intro @nf94 (And.intro @nf95 (And.intro @nf96 (And.intro @nf97 (And.intro @nf98 (And.intro @nf99 (And.intro @nf100 (@nf102)))))))))))))))))))))))))))))))))))))))))))))))))))))))))))))))))))))))))))))))))))))))))))))))))))))))))))))))))))))))))))))))))))))))))))))))))))))
def rr4 := And.intro @nf103 (And.intro @nf104 (And.intro @nf105 (And.intro @nf106 (And.intro @nf107 (And.intro @nf109 (And.intro @nf110 (And.intro @nf111 (And.intro @nf112 (And.intro @nf114 (And.intro @nf136 (And.intro @dp2 (And.intro @dp3 (And.intro @dp4 (And.intro @dp5 (And.intro @dp6 (And.intro @dp7 (And.intro @dp8 (And.intro @dp9 (And.intro @dp10 (And.intro @dp11 (And.intro @dp12 (And.intro @dp13 (And.intro @dp14 (And.intro @dp15 (And.intro @dp16 (And.intro @dp17 (And.intro @dp18 (And.intro @dp19 (And.intro @dp20 (And.intro @dp21 (And.intro @dp22 (And.intro @dp23 (And.intro @dp24 (And.intro @dp25 (And.intro @dp26 (And.intro @dp27 (And.intro @dp28 (And.intro @dp29 (And.intro @dp30 (And.intro @dp31 (And.intro @dp32 (And.intro @dp33 (And.intro @dp34 (And.intro @dp35 (And.intro @dp36 (And.intro @dp37 (And.intro @dp38 (And.intro @dp39 (And.intro @dp40 (And.intro @dp41 (And.intro @dp42 (And.intro @dp43 (And.intro @dp44 (And.intro @dp45 (And.intro @dp46 (And.intro @dp47 (And.intro @dp48 (And.intro @dp49 (And.intro @dp50 (And.intro @dp51 (And.intro @dp52 (And.intro @dp53 (And.intro @dp54 (And.intro @dp55 (And.intro @dp56 (And.intro @dp57 (And.intro @dp58 (And.intro @dp59 (And.intro @dp60 (And.intro @dp61 (And.intro @dp62 (And.intro @dp63 (And.intro @dp64 (And.intro @dp65 (And.intro @dp66 (And.intro @dp67 (And.intro @dp68 (And.intro @dp69 (And.intro @dp70 (And.intro @dp71 (And.intro @dp72 (And.intro @dp73 (And.intro @dp74 (And.intro @dp75 (And.intro @dp76 (And.intro @dp77 (And.intro @dp78 (And.intro @dp79 (And.intro @dp80 (And.intro @dp81 (And.intro @dp82 (And.intro @dp83 (And.intro @dp84 (And.intro @dp85 (And.intro @dp86 (And.intro @dp87 (And.intro @dp89 (And.intro @dp90 (And.intro @dp91 (And.intro @dp92 (And.intro @dp93 (And.intro @dp94 (And.intro @dp95 (And.intro @dp96 (And.intro @dp97 (And.intro @dp98 (And.intro @dp99 (And.intro @dp100 (And.intro @dp102 (And.intro @dp103 (And.intro @dp104 (And.intro @dp105 (And.intro @dp106 (And.intro @dp107 (And.intro @dp109 (And.intro @dp110 (And.intro @dp111 (And.intro @dp112 (And.intro @dp114 (And.intro @dp136 (And.intro @is2 (And.intro @is3 (And.intro @is4 (And.intro @is5 (And.intro @is6 (And.intro @is7 (And.intro @is8 (And.intro @is9 (And.intro @is10 (And.intro @is11 (And.intro @is12 (And.intro @is13 (And.intro @is14 (And.intro @is15 (And.intro @is16 (And.intro @is17 (And.intro @is18 (And.intro @is19 (And.intro @is20 (And.intro @is21 (And.intro @is22 (And.intro @is23 (And.intro @is24 (And.intro @is25 (And.intro @is26 (And.intro @is27 (And.intro @is28 (And.intro @is29 (@is30)))))))))))))))))))))))))))))))))))))))))))))))))))))))))))))))))))))))))))))))))))))))))))))))))))))))))))))))))))))))))))))))))))))))))))))))))))))
def rr5 := And.intro @is31 (And.intro @is32 (And.intro @is33 (And.intro @is34 (And.intro @is35 (And.intro @is36 (And.intro @is37 (And.intro @is38 (And.intro @is39 (And.intro @is40 (And.intro @is41 (And.intro @is42 (And.intro @is43 (And.intro @is44 (And.intro @is45 (And.intro @is46 (And.intro @is47 (And.intro @is48 (And.intro @is49 (And.intro @is50 (And.intro @is51 (And.intro @is52 (And.intro @is53 (And.intro @is54 (And.intro @is55 (And.intro @is56 (And.intro @is57 (And.intro @is58 (And.intro @is59 (And.intro @is60 (And.intro @is61 (And.intro @is62 (And.intro @is63 (And.intro @is64 (And.intro @is65 (And.intro @is66 (And.intro @is67 (And.intro @is68 (And.intro @is69 (And.intro @is70 (And.intro @is71 (And.intro @is72 (And.intro @is73 (And.intro @is74 (And.intro @is75 (And.intro @is76 (And.intro @is77 (And.intro @is78 (And.intro @is79 (And.intro @is80 (And.intro @is81 (And.intro @is82 (And.intro @is83 (And.intro @is84 (And.intro @is85 (And.intro @is86 (And.intro @is87 (And.intro @is89 (And.intro @is90 (And.intro @is91 (And.intro @is92 (And.intro @is93 (And.intro @is94 (And.intro @is95 (And.intro @is96 (And.intro @is97 (And.intro @is98 (And.intro @is99 (And.intro @is100 (And.intro @is102 (And.intro @is103 (And.intro @is104 (And.intro @is105 (And.intro @is106 (And.intro @is107 (And.intro @is109 (And.intro @is110 (And.intro @is111 (And.intro @is112 (And.intro @is114 (And.intro @is136 (And.intro @is88 (And.intro @is101 (And.intro @ld88 (And.intro @ld101 (And.intro @wk88 (And.intro @wk101 (And.intro @dp88 (And.intro @dp101 (And.intro @cf2 (And.intro @cf3 (And.intro @cf4 (And.intro @cf5 (And.intro @cf6 (And.intro @cf7 (And.intro @cf8 (And.intro @cf9 (And.intro @cf10 (And.intro @cf11 (And.intro @cf12 (And.intro @cf13 (And.intro @cf14 (And.intro @cf15 (And.intro @cf16 (And.intro @cf17 (And.intro @cf18 (And.intro @cf19 (And.intro @cf20 (And.intro @cf21 (And.intro @cf22 (And.intro @cf23 (And.intro @cf24 (And.intro @cf25 (And.intro @cf26 (And.intro @cf27 (And.intro @cf28 (And.intro @cf29 (And.intro @cf30 (And.intro @cf31 (And.intro @cf32 (And.intro @cf33 (And.intro @cf34 (And.intro @cf35 (And.intro @cf36 (And.intro @cf37 (And.intro @cf38 (And.intro @cf39 (And.intro @cf40 (And.intro @cf41 (And.intro @cf42 (And.intro @cf43 (And.intro @cf44 (And.intro @cf45 (And.intro @cf46 (And.intro @cf47 (And.intro @cf48 (And.intro @cf49 (And.intro @cf50 (And.intro @cf51 (And.intro @cf52 (And.intro @cf53 (And.intro @cf54 (And.intro @cf55 (And.intro @cf56 (And.intro @cf57 (And.intro @cf58 (And.intro @cf59 (And.intro @cf60 (And.intro @cf61 (@cf62)))))))))))))))))))))))))))))))))))))))))))))))))))))))))))))))))))))))))))))))))))))))))))))))))))))))))))))))))))))))))))))))))))))))))))))))))))))
def rr6 := And.intro @cf63 (And.intro @cf64 (And.intro @cf65 (And.intro @cf66 (And.intro @cf67 (And.intro @cf68 (And.intro @cf69 (And.intro @cf70 (And.intro @cf71 (And.intro @cf72 (And.intro @cf73 (And.intro @cf74 (And.intro @cf75 (And.intro @cf76 (And.intro @cf77 (And.intro @cf78 (And.intro @cf79 (And.intro @cf80 (And.intro @cf81 (And.intro @cf82 (And.intro @cf83 (And.intro @cf84 (And.intro @cf85 (And.intro @cf86 (And.intro @cf87 (And.intro @cf89 (And.intro @cf90 (And.intro @cf91 (And.intro @cf92 (And.intro @cf93 (And.intro @cf94 (And.intro @cf95 (And.intro @cf96 (And.intro @cf97 (And.intro @cf98 (And.intro @cf99 (And.intro @cf100 (And.intro @cf102 (And.intro @cf103 (And.intro @cf104 (And.intro @cf105 (And.intro @cf106 (And.intro @cf107 (And.intro @cf109 (And.intro @cf110 (And.intro @cf111 (And.intro @cf112 (And.intro @cf114 (And.intro @cf136 (And.intro @ct3_0 (And.intro @ct3_1 (And.intro @ct3_3 (And.intro @ct3_4 (And.intro @ct3_5 (And.intro @ct3_6 (And.intro @ct3_8 (And.intro @ct3_9 (And.intro @ct3_10 (And.intro @ct3_11 (And.intro @ct3_13 (And.intro @ct3_14 (And.intro @ct3_15 (And.intro @ct3_16 (And.intro @ct3_18 (And.intro @ct3_19 (And.intro @ct3_20 (And.intro @ct3_22 (And.intro @ct3_24 (And.intro @ct3_25 (And.intro @ct3_26 (And.intro @ct3_28 (And.intro @ct3_30 (And.intro @ct3_31 (And.intro @ct5_0 (And.intro @ct5_1 (And.intro @ct5_3 (And.intro @ct5_4 (And.intro @ct5_5 (And.intro @ct5_6 (And.intro @ct5_8 (And.intro @ct5_9 (And.intro @ct5_10 (And.intro @ct5_11 (And.intro @ct5_12 (And.intro @ct5_14 (And.intro @ct5_15 (And.intro @ct5_16 (And.intro @ct5_17 (And.intro @ct5_19 (And.intro @ct5_20 (And.intro @ct5_22 (And.intro @ct5_23 (And.intro @ct5_24 (And.intro @ct5_26 (@ct5_27))))))))))))))))))))))))))))))))))))))))))))))))))))))))))))))))))))))))))))))))))))))))))))))
def rr := And.intro @rr0 (And.intro @rr1 (And.intro @rr2 (And.intro @rr3 (And.intro @rr4 (And.intro @rr5 (@rr6))))))
end Go.Proofs.YtgdldmfkgijkaaaDoor.VH.S
end

section
namespace Go.Proofs.YtgdldmfkgijkaaaDoor.VH.S
open Go.Proofs
set_option maxRecDepth 100000
set_option maxHeartbeats 4000000
set_option linter.unusedSimpArgs false

theorem e39 (d : Nat) (x lo hi : Int) : evFun E (d+1) 39 [vi x, vi lo, vi hi] [] = some (vb (decide (x ≥ lo) && decide (x ≤ hi)), []) := by
  refine evFun_body b39 ?_
  simp only [vv, qa, qa0, clash, meets, execOp, evBox, opnd, qa1, bin, convHM, qa2, qa3, qa4, qa5, qa6, qa7, zOK, qa8, qa9, borL, isSl, qb, qb0, qb1, qb2, qb3, qb4, cellsOf, TD.agg, qb5, qb6, qb7, qb8, qb9, qc, qc0, qc1, setAt, qc2, qc3, qc4, getR, qc5, qc6, qc7, qc8, qc9, Array.toList, List.map, Option.isSome_none, bne_self_eq_false, reduceIte, reduceCtorEq, Nat.reduceEqDiff, Nat.reduceAdd, Nat.reduceMul, Nat.reduceSub, Nat.reduceBEq, Nat.reduceLeDiff, Int.reduceEq, Int.reduceLT, Int.reduceLE, Int.reduceGE, Int.reduceGT, Int.reduceBEq, Int.reduceBNe, Int.reduceToNat, Int.reduceNeg, Int.reduceSub, Int.reduceAdd, Int.reduceMul, rr, Tryd.f39]
  refine opG_elim (fun h => ?_) (fun h => ?_) <;> simp only [vv, qa, qa0, clash, meets, execOp, evBox, opnd, qa1, bin, convHM, qa2, qa3, qa4, qa5, qa6, qa7, zOK, qa8, qa9, borL, isSl, qb, qb0, qb1, qb2, qb3, qb4, cellsOf, TD.agg, qb5, qb6, qb7, qb8, qb9, qc, qc0, qc1, setAt, qc2, qc3, qc4, getR, qc5, qc6, qc7, qc8, qc9, Array.toList, List.map, Option.isSome_none, bne_self_eq_false, reduceIte, reduceCtorEq, Nat.reduceEqDiff, Nat.reduceAdd, Nat.reduceMul, Nat.reduceSub, Nat.reduceBEq, Nat.reduceLeDiff, Int.reduceEq, Int.reduceLT, Int.reduceLE, Int.reduceGE, Int.reduceGT, Int.reduceBEq, Int.reduceBNe, Int.reduceToNat, Int.reduceNeg, Int.reduceSub, Int.reduceAdd, Int.reduceMul, rr, h] <;> simp only [vv, ff, qa, qa0, clash, meets, execOp, evBox, opnd, qa1, bin, convHM, qa2, qa3, qa4, qa5, qa6, qa7, zOK, qa8, qa9, borL, isSl, qb, qb0, qb1, qb2, qb3, qb4, cellsOf, TD.agg, qb5, qb6, qb7, qb8, qb9, qc, qc0, qc1, setAt, qc2, qc3, qc4, getR, qc5, qc6, qc7, qc8, qc9, Array.toList, List.map, Option.isSome_none, bne_self_eq_false, reduceIte, reduceCtorEq, Nat.reduceEqDiff, Nat.reduceAdd, Nat.reduceMul, Nat.reduceSub, Nat.reduceBEq, Nat.reduceLeDiff, Int.reduceEq, Int.reduceLT, Int.reduceLE, Int.reduceGE, Int.reduceGT, Int.reduceBEq, Int.reduceBNe, Int.reduceToNat, Int.reduceNeg, Int.reduceSub, Int.reduceAdd, Int.reduceMul, finish, qf0, resOf, resa, qf1, qf2, qf3, keep, qf4, qf5, qf6, qe9, qf, rr]
theorem e40 (d : Nat) (x lo hi : Int) : evFun E (d+1) 40 [vi x, vi lo, vi hi] [] = some (vb (decide (x ≥ lo) && decide (x ≤ hi)), []) := by
  refine evFun_body b40 ?_
  simp only [vv, qa, qa0, clash, meets, execOp, evBox, opnd, qa1, bin, convHM, qa2, qa3, qa4, qa5, qa6, qa7, zOK, qa8, qa9, borL, isSl, qb, qb0, qb1, qb2, qb3, qb4, cellsOf, TD.agg, qb5, qb6, qb7, qb8, qb9, qc, qc0, qc1, setAt, qc2, qc3, qc4, getR, qc5, qc6, qc7, qc8, qc9, Array.toList, List.map, Option.isSome_none, bne_self_eq_false, reduceIte, reduceCtorEq, Nat.reduceEqDiff, Nat.reduceAdd, Nat.reduceMul, Nat.reduceSub, Nat.reduceBEq, Nat.reduceLeDiff, Int.reduceEq, Int.reduceLT, Int.reduceLE, Int.reduceGE, Int.reduceGT, Int.reduceBEq, Int.reduceBNe, Int.reduceToNat, Int.reduceNeg, Int.reduceSub, Int.reduceAdd, Int.reduceMul, rr, Tryd.f40]
  refine opG_elim (fun h => ?_) (fun h => ?_) <;> simp only [vv, qa, qa0, clash, meets, execOp, evBox, opnd, qa1, bin, convHM, qa2, qa3, qa4, qa5, qa6, qa7, zOK, qa8, qa9, borL, isSl, qb, qb0, qb1, qb2, qb3, qb4, cellsOf, TD.agg, qb5, qb6, qb7, qb8, qb9, qc, qc0, qc1, setAt, qc2, qc3, qc4, getR, qc5, qc6, qc7, qc8, qc9, Array.toList, List.map, Option.isSome_none, bne_self_eq_false, reduceIte, reduceCtorEq, Nat.reduceEqDiff, Nat.reduceAdd, Nat.reduceMul, Nat.reduceSub, Nat.reduceBEq, Nat.reduceLeDiff, Int.reduceEq, Int.reduceLT, Int.reduceLE, Int.reduceGE, Int.reduceGT, Int.reduceBEq, Int.reduceBNe, Int.reduceToNat, Int.reduceNeg, Int.reduceSub, Int.reduceAdd, Int.reduceMul, rr, h] <;> simp only [vv, ff, qa, qa0, clash, meets, execOp, evBox, opnd, qa1, bin, convHM, qa2, qa3, qa4, qa5, qa6, qa7, zOK, qa8, qa9, borL, isSl, qb, qb0, qb1, qb2, qb3, qb4, cellsOf, TD.agg, qb5, qb6, qb7, qb8, qb9, qc, qc0, qc1, setAt, qc2, qc3, qc4, getR, qc5, qc6, qc7, qc8, qc9, Array.toList, List.map, Option.isSome_none, bne_self_eq_false, reduceIte, reduceCtorEq, Nat.reduceEqDiff, Nat.reduceAdd, Nat.reduceMul, Nat.reduceSub, Nat.reduceBEq, Nat.reduceLeDiff, Int.reduceEq, Int.reduceLT, Int.reduceLE, Int.reduceGE, Int.reduceGT, Int.reduceBEq, Int.reduceBNe, Int.reduceToNat, Int.reduceNeg, Int.reduceSub, Int.reduceAdd, Int.reduceMul, finish, qf0, resOf, resa, qf1, qf2, qf3, keep, qf4, qf5, qf6, qe9, qf, rr]
theorem e42 (d : Nat) (x : Int) : evFun E (d+2) 42 [vi x] [] = some (vb (decide (x ≥ 0) && decide (x ≤ 1000000)), []) := by
  refine evFun_body b42 ?_
  simp only [vv, cc, qa, qa0, clash, meets, execOp, evBox, opnd, qa1, bin, convHM, qa2, qa3, qa4, qa5, qa6, qa7, zOK, qa8, qa9, borL, isSl, qb, qb0, qb1, qb2, qb3, qb4, cellsOf, TD.agg, qb5, qb6, qb7, qb8, qb9, qc, qc0, qc1, setAt, qc2, qc3, qc4, getR, qc5, qc6, qc7, qc8, qc9, Array.toList, List.map, Option.isSome_none, bne_self_eq_false, reduceIte, reduceCtorEq, Nat.reduceEqDiff, Nat.reduceAdd, Nat.reduceMul, Nat.reduceSub, Nat.reduceBEq, Nat.reduceLeDiff, Int.reduceEq, Int.reduceLT, Int.reduceLE, Int.reduceGE, Int.reduceGT, Int.reduceBEq, Int.reduceBNe, Int.reduceToNat, Int.reduceNeg, Int.reduceSub, Int.reduceAdd, Int.reduceMul, qd, qd0, qd1, qd2, qd3, qd4, qd5, qd6, qd7, qd8, qd9, qe, qe0, qe1, qe2, qe3, qe4, qe5, qe6, qe7, qe8, qe9, qf, rr, Tryd.f42, e40]
  simp only [vv, ff, qa, qa0, clash, meets, execOp, evBox, opnd, qa1, bin, convHM, qa2, qa3, qa4, qa5, qa6, qa7, zOK, qa8, qa9, borL, isSl, qb, qb0, qb1, qb2, qb3, qb4, cellsOf, TD.agg, qb5, qb6, qb7, qb8, qb9, qc, qc0, qc1, setAt, qc2, qc3, qc4, getR, qc5, qc6, qc7, qc8, qc9, Array.toList, List.map, Option.isSome_none, bne_self_eq_false, reduceIte, reduceCtorEq, Nat.reduceEqDiff, Nat.reduceAdd, Nat.reduceMul, Nat.reduceSub, Nat.reduceBEq, Nat.reduceLeDiff, Int.reduceEq, Int.reduceLT, Int.reduceLE, Int.reduceGE, Int.reduceGT, Int.reduceBEq, Int.reduceBNe, Int.reduceToNat, Int.reduceNeg, Int.reduceSub, Int.reduceAdd, Int.reduceMul, finish, qf0, resOf, resa, qf1, qf2, qf3, keep, qf4, qf5, qf6, qe9, qf, rr]
abbrev bad (x : Int) : Bool := !(decide (x ≥ 0) && decide (x ≤ 1152921504606846975))
end Go.Proofs.YtgdldmfkgijkaaaDoor.VH.S
end

section
namespace Go.Proofs.YtgdldmfkgijkaaaDoor.VH.S
open Go.Proofs
set_option maxRecDepth 100000
set_option maxHeartbeats 4000000
set_option linter.unusedSimpArgs false

theorem a13 : andU 13 63 = 13 := by decide
end Go.Proofs.YtgdldmfkgijkaaaDoor.VH.S
end

section
namespace Go.Proofs.YtgdldmfkgijkaaaDoor.VH.S
open Go.Proofs
set_option maxRecDepth 100000
set_option maxHeartbeats 4000000
set_option linter.unusedSimpArgs false

theorem e87e (d : Nat) (x : Int) : evFun E (d+1) 87 [vi x, vi 8] [] = some (.ref 0 [] 1 0 8 (some 8), [some ((eightL x).map (iv .u8))]) := by
  refine evFun_body b87 ?_
  simp only [vv, cc, ff, uu, norm, qa, qa0, clash, meets, execOp, evBox, opnd, qa1, bin, convHM, qa2, qa3, qa4, qa5, qa6, qa7, zOK, qa8, qa9, borL, isSl, qb, qb0, qb1, qb2, qb3, qb4, cellsOf, TD.agg, qb5, qb6, qb7, qb8, qb9, qc, qc0, qc1, setAt, qc2, qc3, qc4, getR, qc5, qc6, qc7, qc8, qc9, Array.toList, List.map, Option.isSome_none, bne_self_eq_false, reduceIte, reduceCtorEq, Nat.reduceEqDiff, Nat.reduceAdd, Nat.reduceMul, Nat.reduceSub, Nat.reduceBEq, Nat.reduceLeDiff, Int.reduceEq, Int.reduceLT, Int.reduceLE, Int.reduceGE, Int.reduceGT, Int.reduceBEq, Int.reduceBNe, Int.reduceToNat, Int.reduceNeg, Int.reduceSub, Int.reduceAdd, Int.reduceMul, qd, qd0, qd1, qd2, qd3, qd4, qd5, qd6, qd7, qd8, qd9, qe, qe0, qe1, qe2, qe3, qe4, qe5, qe6, qe7, qe8, qe9, qf, finish, qf0, resOf, resa, qf1, qf2, qf3, keep, qf4, qf5, qf6, rr, Tryd.f87]
  simp only [eightL, List.map_cons, List.map_nil, shr_shr, Int.reduceAdd, Int.reduceLE]
theorem e78 (d : Nat) (x : Int) (h : 0 ≤ x) : evFun E (d+2) 78 [vi x] [] = some (.ref 0 [] 1 0 8 (some 8), [some ((eightL x).map (iv .u8))]) := by
  refine evFun_body b78 ?_
  have h1 : decide (x < 0) = false := by simp; omega
  simp only [vv, cc, qa, qa0, clash, meets, execOp, evBox, opnd, qa1, bin, convHM, qa2, qa3, qa4, qa5, qa6, qa7, zOK, qa8, qa9, borL, isSl, qb, qb0, qb1, qb2, qb3, qb4, cellsOf, TD.agg, qb5, qb6, qb7, qb8, qb9, qc, qc0, qc1, setAt, qc2, qc3, qc4, getR, qc5, qc6, qc7, qc8, qc9, Array.toList, List.map, Option.isSome_none, bne_self_eq_false, reduceIte, reduceCtorEq, Nat.reduceEqDiff, Nat.reduceAdd, Nat.reduceMul, Nat.reduceSub, Nat.reduceBEq, Nat.reduceLeDiff, Int.reduceEq, Int.reduceLT, Int.reduceLE, Int.reduceGE, Int.reduceGT, Int.reduceBEq, Int.reduceBNe, Int.reduceToNat, Int.reduceNeg, Int.reduceSub, Int.reduceAdd, Int.reduceMul, qd, qd0, qd1, qd2, qd3, qd4, qd5, qd6, qd7, qd8, qd9, qe, qe0, qe1, qe2, qe3, qe4, qe5, qe6, qe7, qe8, qe9, qf, rr, Tryd.f78, h1, e87e]
  simp only [vv, ff, qa, qa0, clash, meets, execOp, evBox, opnd, qa1, bin, convHM, qa2, qa3, qa4, qa5, qa6, qa7, zOK, qa8, qa9, borL, isSl, qb, qb0, qb1, qb2, qb3, qb4, cellsOf, TD.agg, qb5, qb6, qb7, qb8, qb9, qc, qc0, qc1, setAt, qc2, qc3, qc4, getR, qc5, qc6, qc7, qc8, qc9, Array.toList, List.map, Option.isSome_none, bne_self_eq_false, reduceIte, reduceCtorEq, Nat.reduceEqDiff, Nat.reduceAdd, Nat.reduceMul, Nat.reduceSub, Nat.reduceBEq, Nat.reduceLeDiff, Int.reduceEq, Int.reduceLT, Int.reduceLE, Int.reduceGE, Int.reduceGT, Int.reduceBEq, Int.reduceBNe, Int.reduceToNat, Int.reduceNeg, Int.reduceSub, Int.reduceAdd, Int.reduceMul, finish, qf0, resOf, resa, qf1, qf2, qf3, keep, qf4, qf5, qf6, qe9, qf, rr]
theorem e81 (d : Nat) (x : Int) (h : 0 ≤ x) : evFun E (d+1) 81 [vi x] [] = some (.ref 0 [] 1 0 8 none, [some ((eightL x).map (iv .u8))]) := by
  refine evFun_body b81 ?_
  have h1 : decide (x < 0) = false := by simp; omega
  simp only [vv, cc, ff, uu, norm, qa, qa0, clash, meets, execOp, evBox, opnd, qa1, bin, convHM, qa2, qa3, qa4, qa5, qa6, qa7, zOK, qa8, qa9, borL, isSl, qb, qb0, qb1, qb2, qb3, qb4, cellsOf, TD.agg, qb5, qb6, qb7, qb8, qb9, qc, qc0, qc1, setAt, qc2, qc3, qc4, getR, qc5, qc6, qc7, qc8, qc9, Array.toList, List.map, Option.isSome_none, bne_self_eq_false, reduceIte, reduceCtorEq, Nat.reduceEqDiff, Nat.reduceAdd, Nat.reduceMul, Nat.reduceSub, Nat.reduceBEq, Nat.reduceLeDiff, Int.reduceEq, Int.reduceLT, Int.reduceLE, Int.reduceGE, Int.reduceGT, Int.reduceBEq, Int.reduceBNe, Int.reduceToNat, Int.reduceNeg, Int.reduceSub, Int.reduceAdd, Int.reduceMul, qd, qd0, qd1, qd2, qd3, qd4, qd5, qd6, qd7, qd8, qd9, qe, qe0, qe1, qe2, qe3, qe4, qe5, qe6, qe7, qe8, qe9, qf, finish, qf0, resOf, resa, qf1, qf2, qf3, keep, qf4, qf5, qf6, rr, Tryd.f81, h1]
  simp only [eightL, List.map_cons, List.map_nil, shr_zero]
theorem e86 (d : Nat) (x : Int) : evFun E (d+2) 86 [vi x] [] = some (vb (decide (x ≥ 0) && decide (x ≤ 1152921504606846975)), []) := by
  refine evFun_body b86 ?_
  simp only [vv, cc, qa, qa0, clash, meets, execOp, evBox, opnd, qa1, bin, convHM, qa2, qa3, qa4, qa5, qa6, qa7, zOK, qa8, qa9, borL, isSl, qb, qb0, qb1, qb2, qb3, qb4, cellsOf, TD.agg, qb5, qb6, qb7, qb8, qb9, qc, qc0, qc1, setAt, qc2, qc3, qc4, getR, qc5, qc6, qc7, qc8, qc9, Array.toList, List.map, Option.isSome_none, bne_self_eq_false, reduceIte, reduceCtorEq, Nat.reduceEqDiff, Nat.reduceAdd, Nat.reduceMul, Nat.reduceSub, Nat.reduceBEq, Nat.reduceLeDiff, Int.reduceEq, Int.reduceLT, Int.reduceLE, Int.reduceGE, Int.reduceGT, Int.reduceBEq, Int.reduceBNe, Int.reduceToNat, Int.reduceNeg, Int.reduceSub, Int.reduceAdd, Int.reduceMul, qd, qd0, qd1, qd2, qd3, qd4, qd5, qd6, qd7, qd8, qd9, qe, qe0, qe1, qe2, qe3, qe4, qe5, qe6, qe7, qe8, qe9, qf, rr, Tryd.f86, e40]
  simp only [vv, ff, qa, qa0, clash, meets, execOp, evBox, opnd, qa1, bin, convHM, qa2, qa3, qa4, qa5, qa6, qa7, zOK, qa8, qa9, borL, isSl, qb, qb0, qb1, qb2, qb3, qb4, cellsOf, TD.agg, qb5, qb6, qb7, qb8, qb9, qc, qc0, qc1, setAt, qc2, qc3, qc4, getR, qc5, qc6, qc7, qc8, qc9, Array.toList, List.map, Option.isSome_none, bne_self_eq_false, reduceIte, reduceCtorEq, Nat.reduceEqDiff, Nat.reduceAdd, Nat.reduceMul, Nat.reduceSub, Nat.reduceBEq, Nat.reduceLeDiff, Int.reduceEq, Int.reduceLT, Int.reduceLE, Int.reduceGE, Int.reduceGT, Int.reduceBEq, Int.reduceBNe, Int.reduceToNat, Int.reduceNeg, Int.reduceSub, Int.reduceAdd, Int.reduceMul, finish, qf0, resOf, resa, qf1, qf2, qf3, keep, qf4, qf5, qf6, qe9, qf, rr]
def okS (c r : Int) : Bool := (decide (c ≥ 0) && decide (c ≤ 1000000)) && (decide (r ≥ 0) && decide (r ≤ 1152921504606846975))
end Go.Proofs.YtgdldmfkgijkaaaDoor.VH.S
end

section
namespace Go.Proofs.YtgdldmfkgijkaaaDoor.VH.S
open Go.Proofs
set_option maxRecDepth 100000
set_option maxHeartbeats 4000000
set_option linter.unusedSimpArgs false

end Go.Proofs.YtgdldmfkgijkaaaDoor.VH.S
end

section
namespace Go.Proofs.YtgdldmfkgijkaaaDoor.VH.S
open Go.Proofs
set_option maxRecDepth 100000
set_option maxHeartbeats 4000000
set_option linter.unusedSimpArgs false

end Go.Proofs.YtgdldmfkgijkaaaDoor.VH.S
end

section
namespace Go.Proofs.YtgdldmfkgijkaaaDoor.VH.S
open Go.Proofs
set_option maxRecDepth 100000
set_option maxHeartbeats 4000000
set_option linter.unusedSimpArgs false

end Go.Proofs.YtgdldmfkgijkaaaDoor.VH.S
end

section
namespace Go.Proofs.YtgdldmfkgijkaaaDoor.VH.S
open Go.Proofs
set_option maxRecDepth 100000
set_option maxHeartbeats 4000000
set_option linter.unusedSimpArgs false

/- What is known, for rows written in any way. -/
theorem e36 (d : Nat) (tg : Tg) (cap : Option Nat) (l : List Int) (hl : l.length ≤ 8) (hb : B8 l) : evFun E (d+1) 36 [.sl tg 1 l.length cap (l.map (iv .u8))] [] = some (u64 (numB l), []) := by
  refine evFun_body b36 ?_
  have hl' : l.length ≤ 2 ^ 39 := by omega
  simp only [vv, qa, qa0, clash, meets, execOp, evBox, opnd, qa1, bin, convHM, qa2, qa3, qa4, qa5, qa6, qa7, zOK, qa8, qa9, borL, isSl, qb, qb0, qb1, qb2, qb3, qb4, cellsOf, TD.agg, qb5, qb6, qb7, qb8, qb9, qc, qc0, qc1, setAt, qc2, qc3, qc4, getR, qc5, qc6, qc7, qc8, qc9, Array.toList, List.map, Option.isSome_none, bne_self_eq_false, reduceIte, reduceCtorEq, Nat.reduceEqDiff, Nat.reduceAdd, Nat.reduceMul, Nat.reduceSub, Nat.reduceBEq, Nat.reduceLeDiff, Int.reduceEq, Int.reduceLT, Int.reduceLE, Int.reduceGE, Int.reduceGT, Int.reduceBEq, Int.reduceBNe, Int.reduceToNat, Int.reduceNeg, Int.reduceSub, Int.reduceAdd, Int.reduceMul, rr, Tryd.f36]
  refine loop_go (fun i => {T := tp [(3, u64 (numB (l.take i))), (6, .sl tg 1 l.length cap (l.map (iv .u8))), (7, vi l.length), (8, vi i)], H := hp [], nx := 0}) l.length ?_ (lt_LF hl') (fun i hi Kn hK => ?_) (fun Kn => ?_)
  · simp only [vv, ff, norm, Array.toList, List.map, Option.isSome_none, bne_self_eq_false, reduceIte, reduceCtorEq, Nat.reduceEqDiff, Nat.reduceAdd, Nat.reduceMul, Nat.reduceSub, Nat.reduceBEq, Nat.reduceLeDiff, Int.reduceEq, Int.reduceLT, Int.reduceLE, Int.reduceGE, Int.reduceGT, Int.reduceBEq, Int.reduceBNe, Int.reduceToNat, Int.reduceNeg, Int.reduceSub, Int.reduceAdd, Int.reduceMul, finish, qf0, resOf, resa, qf1, qf2, qf3, keep, qf4, qf5, qf6, qe9, qf, Int.natCast_zero, List.take_zero, numB, List.foldl_nil]
  · have h7 : numB (l.take i) < 72057594037927936 := by
      have h1 := numB_mono hb (show i ≤ l.length - 1 by omega) (by omega)
      have h2 := numB_take_lt hb (l.length - 1)
      have h3 : (256 : Int) ^ (l.length - 1) ≤ 256 ^ 7 := by
        have e : ∀ n : Nat, (256 : Int) ^ n = ((256 ^ n : Nat) : Int) := fun n => by simp
        have := Nat.pow_le_pow_right (n := 256) (by decide) (show l.length - 1 ≤ 7 by omega)
        rw [e, e]; omega
      have h4 : (256 : Int) ^ 7 = 72057594037927936 := by decide
      omega
    simp only [vv, qa, qa0, clash, meets, execOp, evBox, opnd, qa1, bin, convHM, qa2, qa3, qa4, qa5, qa6, qa7, zOK, qa8, qa9, borL, isSl, qb, qb0, qb1, qb2, qb3, qb4, cellsOf, TD.agg, qb5, qb6, qb7, qb8, qb9, qc, qc0, qc1, setAt, qc2, qc3, qc4, getR, qc5, qc6, qc7, qc8, qc9, Array.toList, List.map, Option.isSome_none, bne_self_eq_false, reduceIte, reduceCtorEq, Nat.reduceEqDiff, Nat.reduceAdd, Nat.reduceMul, Nat.reduceSub, Nat.reduceBEq, Nat.reduceLeDiff, Int.reduceEq, Int.reduceLT, Int.reduceLE, Int.reduceGE, Int.reduceGT, Int.reduceBEq, Int.reduceBNe, Int.reduceToNat, Int.reduceNeg, Int.reduceSub, Int.reduceAdd, Int.reduceMul, rr, lt_ok hi, map_get hi, orU_shl (numB_nn (hb.take i)) h7 (hb _ (List.getElem_mem hi)), wrap_succ hi hl', ← numB_take hi]
    refine hK _ ?_
    simp only [vv, ff, norm, Array.toList, List.map, Option.isSome_none, bne_self_eq_false, reduceIte, reduceCtorEq, Nat.reduceEqDiff, Nat.reduceAdd, Nat.reduceMul, Nat.reduceSub, Nat.reduceBEq, Nat.reduceLeDiff, Int.reduceEq, Int.reduceLT, Int.reduceLE, Int.reduceGE, Int.reduceGT, Int.reduceBEq, Int.reduceBNe, Int.reduceToNat, Int.reduceNeg, Int.reduceSub, Int.reduceAdd, Int.reduceMul, finish, qf0, resOf, resa, qf1, qf2, qf3, keep, qf4, qf5, qf6, qe9, qf]
  · simp only [vv, qa, qa0, clash, meets, execOp, evBox, opnd, qa1, bin, convHM, qa2, qa3, qa4, qa5, qa6, qa7, zOK, qa8, qa9, borL, isSl, qb, qb0, qb1, qb2, qb3, qb4, cellsOf, TD.agg, qb5, qb6, qb7, qb8, qb9, qc, qc0, qc1, setAt, qc2, qc3, qc4, getR, qc5, qc6, qc7, qc8, qc9, Array.toList, List.map, Option.isSome_none, bne_self_eq_false, reduceIte, reduceCtorEq, Nat.reduceEqDiff, Nat.reduceAdd, Nat.reduceMul, Nat.reduceSub, Nat.reduceBEq, Nat.reduceLeDiff, Int.reduceEq, Int.reduceLT, Int.reduceLE, Int.reduceGE, Int.reduceGT, Int.reduceBEq, Int.reduceBNe, Int.reduceToNat, Int.reduceNeg, Int.reduceSub, Int.reduceAdd, Int.reduceMul, rr, lt_no]
    simp only [vv, ff, qa, qa0, clash, meets, execOp, evBox, opnd, qa1, bin, convHM, qa2, qa3, qa4, qa5, qa6, qa7, zOK, qa8, qa9, borL, isSl, qb, qb0, qb1, qb2, qb3, qb4, cellsOf, TD.agg, qb5, qb6, qb7, qb8, qb9, qc, qc0, qc1, setAt, qc2, qc3, qc4, getR, qc5, qc6, qc7, qc8, qc9, Array.toList, List.map, Option.isSome_none, bne_self_eq_false, reduceIte, reduceCtorEq, Nat.reduceEqDiff, Nat.reduceAdd, Nat.reduceMul, Nat.reduceSub, Nat.reduceBEq, Nat.reduceLeDiff, Int.reduceEq, Int.reduceLT, Int.reduceLE, Int.reduceGE, Int.reduceGT, Int.reduceBEq, Int.reduceBNe, Int.reduceToNat, Int.reduceNeg, Int.reduceSub, Int.reduceAdd, Int.reduceMul, finish, qf0, resOf, resa, qf1, qf2, qf3, keep, qf4, qf5, qf6, qe9, qf, rr, List.take_length]
theorem q36 (d : Nat) (tg : Tg) (cap : Option Nat) (cs : List AV) (n : Nat) (hk : isK .u8 cs = true) (hn : cs.length = n) (h8 : n ≤ 8) (hb : B8 (un cs)) : evFun E (d+1) 36 [.sl tg 1 n cap cs] [] = some (u64 (numB (un cs)), []) := by
  subst hn
  have := e36 d tg cap (un cs) (by rw [un_len]; exact h8) hb
  rw [un_len, ← isK_get hk] at this; exact this
theorem q67 (d : Nat) (tg tg' : Tg) (cap cap' : Option Nat) (n m : Nat) (a b : List AV) (ha : isK .u8 a = true) (hb : isK .u8 b = true) (hn : a.length = n) (hm : b.length = m) (h1 : B8 (un a)) (h2 : B8 (un b)) : evFun E (d+1) 67 [.sl tg 1 n cap a, .sl tg' 1 m cap' b] [] = some (vb (decide (un a = un b)), []) := by
  subst hn; subst hm
  refine evFun_body b67 ?_
  have e1 := bytesOf_isK ha
  have e2 := bytesOf_isK hb
  have hs := strOf_eq h1 h2
  simp only [vv, qa, qa0, clash, meets, execOp, evBox, opnd, qa1, bin, convHM, qa2, qa3, qa4, qa5, qa6, qa7, zOK, qa8, qa9, borL, isSl, qb, qb0, qb1, qb2, qb3, qb4, cellsOf, TD.agg, qb5, qb6, qb7, qb8, qb9, qc, qc0, qc1, setAt, qc2, qc3, qc4, getR, qc5, qc6, qc7, qc8, qc9, Array.toList, List.map, Option.isSome_none, bne_self_eq_false, reduceIte, reduceCtorEq, Nat.reduceEqDiff, Nat.reduceAdd, Nat.reduceMul, Nat.reduceSub, Nat.reduceBEq, Nat.reduceLeDiff, Int.reduceEq, Int.reduceLT, Int.reduceLE, Int.reduceGE, Int.reduceGT, Int.reduceBEq, Int.reduceBNe, Int.reduceToNat, Int.reduceNeg, Int.reduceSub, Int.reduceAdd, Int.reduceMul, rr, Tryd.f67, cellsIn, List.take_length, e1, e2, strBin]
  simp only [vv, ff, qa, qa0, clash, meets, execOp, evBox, opnd, qa1, bin, convHM, qa2, qa3, qa4, qa5, qa6, qa7, zOK, qa8, qa9, borL, isSl, qb, qb0, qb1, qb2, qb3, qb4, cellsOf, TD.agg, qb5, qb6, qb7, qb8, qb9, qc, qc0, qc1, setAt, qc2, qc3, qc4, getR, qc5, qc6, qc7, qc8, qc9, Array.toList, List.map, Option.isSome_none, bne_self_eq_false, reduceIte, reduceCtorEq, Nat.reduceEqDiff, Nat.reduceAdd, Nat.reduceMul, Nat.reduceSub, Nat.reduceBEq, Nat.reduceLeDiff, Int.reduceEq, Int.reduceLT, Int.reduceLE, Int.reduceGE, Int.reduceGT, Int.reduceBEq, Int.reduceBNe, Int.reduceToNat, Int.reduceNeg, Int.reduceSub, Int.reduceAdd, Int.reduceMul, finish, qf0, resOf, resa, qf1, qf2, qf3, keep, qf4, qf5, qf6, qe9, qf, rr]
  simpa [strOf] using hs
end Go.Proofs.YtgdldmfkgijkaaaDoor.VH.S
end

section
namespace Go.Proofs.YtgdldmfkgijkaaaDoor.VH.S
open Go.Proofs
set_option maxRecDepth 100000
set_option maxHeartbeats 4000000
set_option linter.unusedSimpArgs false

def cOf (l : List Int) : Int := numB (l.take 8)
def rOf (l : List Int) : Int := numB ((l.drop 8).take 8)
def inS (l : List Int) : Bool := decide (cOf l ≤ 1000000) && decide (rOf l ≤ 1152921504606846975)
def rdOK (l : List Int) : Bool := inS l && decide (slotL (cOf l) (rOf l) = l)
end Go.Proofs.YtgdldmfkgijkaaaDoor.VH.S
end

section
namespace Go.Proofs.YtgdldmfkgijkaaaDoor.VH.S
open Go.Proofs
set_option maxRecDepth 100000
set_option maxHeartbeats 4000000
set_option linter.unusedSimpArgs false

def rdV (l : List Int) : Int × Int × Int :=
  if l.length = 40 then
    if rdOK (l.take 20) = true ∧ (rdOK (l.drop 20) = false ∨ cOf (l.take 20) ≥ cOf (l.drop 20)) then (cOf (l.take 20), rOf (l.take 20), 0)
    else if rdOK (l.drop 20) = true then (cOf (l.drop 20), rOf (l.drop 20), 1) else (0, 0, -1)
  else (0, 0, -1)
end Go.Proofs.YtgdldmfkgijkaaaDoor.VH.S
end

section
namespace Go.Proofs.YtgdldmfkgijkaaaDoor.VH.S
open Go.Proofs
set_option maxRecDepth 100000
set_option maxHeartbeats 4000000
set_option linter.unusedSimpArgs false

end Go.Proofs.YtgdldmfkgijkaaaDoor.VH.S
end

section
namespace Go.Proofs.YtgdldmfkgijkaaaDoor.VH.S
open Go.Proofs
set_option maxRecDepth 100000
set_option maxHeartbeats 4000000
set_option linter.unusedSimpArgs false

def wrOK (l : List Int) (c r t : Int) : Bool := decide (l.length = 40) && okS c r && (decide (t ≥ 0) && decide (t ≤ 20)) && !(decide ((rdV l).2.2 ≥ 0) && decide (c ≤ (rdV l).1))
def wrAt (l : List Int) : Nat := if (rdV l).2.2 == 0 then 20 else 0
def wrC (cs : List AV) (c r t : Int) : List AV := if wrOK (un cs) c r t = true then putL cs (wrAt (un cs)) (((slotL c r).take t.toNat).map (iv .u8)) else cs
def wrV (l : List Int) (c r t : Int) : List Int := if wrOK l c r t = true then putL l (wrAt l) ((slotL c r).take t.toNat) else l
theorem un_wrC (cs : List AV) (c r t : Int) : un (wrC cs c r t) = wrV (un cs) c r t := by
  unfold wrC wrV
  split
  · rw [un_put, un_map]
  · rfl
theorem isK_wrC {cs : List AV} (h : isK .u8 cs = true) (c r t : Int) : isK .u8 (wrC cs c r t) = true := by
  unfold wrC
  split
  · exact isK_put h (isK_map _ _)
  · exact h
theorem B8.wrV {l : List Int} (h : B8 l) (c r t : Int) : B8 (wrV l c r t) := by
  unfold S.wrV
  split
  · exact h.put ((B8.slot _ _).take _)
  · exact h
theorem wrC_len {cs : List AV} (c r t : Int) : (wrC cs c r t).length = cs.length := by
  unfold wrC
  split
  · rename_i h
    simp only [wrOK, Bool.and_eq_true, decide_eq_true_eq, un_len] at h
    refine putL_len _ _ _ ?_
    rw [List.length_map, List.length_take, slot_len]
    unfold wrAt
    split <;> omega
  · rfl
end Go.Proofs.YtgdldmfkgijkaaaDoor.VH.S
end

section
namespace Go.Proofs.YtgdldmfkgijkaaaDoor.VH.S
open Go.Proofs
set_option maxRecDepth 100000
set_option maxHeartbeats 8000000
set_option linter.unusedSimpArgs false

theorem e72 (d : Nat) (b : List Int) (s : Nat × Int) (hb : b.length ≤ 2 ^ 39) : evFun E (d+1) 72 [.ptr 0 [] 0] [curC b s] = some (vi (by1 b s).1, [some (curC b (by1 b s).2)]) := by
  refine evFun_body b72 ?_
  obtain ⟨i, h⟩ := s
  by_cases hi : i < b.length
  · have hg : b[i]?.getD 0 = b[i] := by rw [List.getElem?_eq_getElem hi]; rfl
    simp (maxDischargeDepth := 8) only [vv, cc, bb, qa, qa0, clash, meets, execOp, evBox, opnd, qa1, bin, convHM, qa2, qa3, qa4, qa5, qa6, qa7, zOK, qa8, qa9, borL, isSl, qb, qb0, qb1, qb2, qb3, qb4, cellsOf, TD.agg, qb5, qb6, qb7, qb8, qb9, qc, qc0, qc1, setAt, qc2, qc3, qc4, getR, qc5, qc6, qc7, qc8, qc9, Array.toList, List.map, Option.isSome_none, bne_self_eq_false, reduceIte, reduceCtorEq, Nat.reduceEqDiff, Nat.reduceAdd, Nat.reduceMul, Nat.reduceSub, Nat.reduceBEq, Nat.reduceLeDiff, Int.reduceEq, Int.reduceLT, Int.reduceLE, Int.reduceGE, Int.reduceGT, Int.reduceBEq, Int.reduceBNe, Int.reduceToNat, Int.reduceNeg, Int.reduceSub, Int.reduceAdd, Int.reduceMul, qd, qd0, qd1, qd2, qd3, qd4, qd5, qd6, qd7, qd8, qd9, qe, qe0, qe1, qe2, qe3, qe4, qe5, qe6, qe7, qe8, qe9, qf, rr, Tryd.f72, curC, bin_xorI, bin_andI, lt_ok hi, map_get hi, wrap_succ hi hb]
    repeat' ((with_reducible refine qg9 ?_ ?_); (focus kernel_rfl); try simp (maxDischargeDepth := 8) only [vv, cc, bb, qa, qa0, clash, meets, execOp, evBox, opnd, qa1, bin, convHM, qa2, qa3, qa4, qa5, qa6, qa7, zOK, qa8, qa9, borL, isSl, qb, qb0, qb1, qb2, qb3, qb4, cellsOf, TD.agg, qb5, qb6, qb7, qb8, qb9, qc, qc0, qc1, setAt, qc2, qc3, qc4, getR, qc5, qc6, qc7, qc8, qc9, Array.toList, List.map, Option.isSome_none, bne_self_eq_false, reduceIte, reduceCtorEq, Nat.reduceEqDiff, Nat.reduceAdd, Nat.reduceMul, Nat.reduceSub, Nat.reduceBEq, Nat.reduceLeDiff, Int.reduceEq, Int.reduceLT, Int.reduceLE, Int.reduceGE, Int.reduceGT, Int.reduceBEq, Int.reduceBNe, Int.reduceToNat, Int.reduceNeg, Int.reduceSub, Int.reduceAdd, Int.reduceMul, qd, qd0, qd1, qd2, qd3, qd4, qd5, qd6, qd7, qd8, qd9, qe, qe0, qe1, qe2, qe3, qe4, qe5, qe6, qe7, qe8, qe9, qf, rr, bin_xorI, bin_andI, lt_ok hi, map_get hi, wrap_succ hi hb])
    simp only [vv, ff, qa, qa0, clash, meets, execOp, evBox, opnd, qa1, bin, convHM, qa2, qa3, qa4, qa5, qa6, qa7, zOK, qa8, qa9, borL, isSl, qb, qb0, qb1, qb2, qb3, qb4, cellsOf, TD.agg, qb5, qb6, qb7, qb8, qb9, qc, qc0, qc1, setAt, qc2, qc3, qc4, getR, qc5, qc6, qc7, qc8, qc9, Array.toList, List.map, Option.isSome_none, bne_self_eq_false, reduceIte, reduceCtorEq, Nat.reduceEqDiff, Nat.reduceAdd, Nat.reduceMul, Nat.reduceSub, Nat.reduceBEq, Nat.reduceLeDiff, Int.reduceEq, Int.reduceLT, Int.reduceLE, Int.reduceGE, Int.reduceGT, Int.reduceBEq, Int.reduceBNe, Int.reduceToNat, Int.reduceNeg, Int.reduceSub, Int.reduceAdd, Int.reduceMul, finish, qf0, resOf, resa, qf1, qf2, qf3, keep, qf4, qf5, qf6, qe9, qf, rr, by1, curC, if_pos hi, hg, xr, nh]
  · have hd : decide ((i : Int) < (b.length : Int)) = false := by simp; omega
    simp (maxDischargeDepth := 8) only [vv, cc, bb, qa, qa0, clash, meets, execOp, evBox, opnd, qa1, bin, convHM, qa2, qa3, qa4, qa5, qa6, qa7, zOK, qa8, qa9, borL, isSl, qb, qb0, qb1, qb2, qb3, qb4, cellsOf, TD.agg, qb5, qb6, qb7, qb8, qb9, qc, qc0, qc1, setAt, qc2, qc3, qc4, getR, qc5, qc6, qc7, qc8, qc9, Array.toList, List.map, Option.isSome_none, bne_self_eq_false, reduceIte, reduceCtorEq, Nat.reduceEqDiff, Nat.reduceAdd, Nat.reduceMul, Nat.reduceSub, Nat.reduceBEq, Nat.reduceLeDiff, Int.reduceEq, Int.reduceLT, Int.reduceLE, Int.reduceGE, Int.reduceGT, Int.reduceBEq, Int.reduceBNe, Int.reduceToNat, Int.reduceNeg, Int.reduceSub, Int.reduceAdd, Int.reduceMul, qd, qd0, qd1, qd2, qd3, qd4, qd5, qd6, qd7, qd8, qd9, qe, qe0, qe1, qe2, qe3, qe4, qe5, qe6, qe7, qe8, qe9, qf, rr, Tryd.f72, curC, bin_xorI, bin_andI, hd]
    repeat' ((with_reducible refine qg9 ?_ ?_); (focus kernel_rfl); try simp (maxDischargeDepth := 8) only [vv, cc, bb, qa, qa0, clash, meets, execOp, evBox, opnd, qa1, bin, convHM, qa2, qa3, qa4, qa5, qa6, qa7, zOK, qa8, qa9, borL, isSl, qb, qb0, qb1, qb2, qb3, qb4, cellsOf, TD.agg, qb5, qb6, qb7, qb8, qb9, qc, qc0, qc1, setAt, qc2, qc3, qc4, getR, qc5, qc6, qc7, qc8, qc9, Array.toList, List.map, Option.isSome_none, bne_self_eq_false, reduceIte, reduceCtorEq, Nat.reduceEqDiff, Nat.reduceAdd, Nat.reduceMul, Nat.reduceSub, Nat.reduceBEq, Nat.reduceLeDiff, Int.reduceEq, Int.reduceLT, Int.reduceLE, Int.reduceGE, Int.reduceGT, Int.reduceBEq, Int.reduceBNe, Int.reduceToNat, Int.reduceNeg, Int.reduceSub, Int.reduceAdd, Int.reduceMul, qd, qd0, qd1, qd2, qd3, qd4, qd5, qd6, qd7, qd8, qd9, qe, qe0, qe1, qe2, qe3, qe4, qe5, qe6, qe7, qe8, qe9, qf, rr, bin_xorI, bin_andI, hd])
    simp only [vv, ff, qa, qa0, clash, meets, execOp, evBox, opnd, qa1, bin, convHM, qa2, qa3, qa4, qa5, qa6, qa7, zOK, qa8, qa9, borL, isSl, qb, qb0, qb1, qb2, qb3, qb4, cellsOf, TD.agg, qb5, qb6, qb7, qb8, qb9, qc, qc0, qc1, setAt, qc2, qc3, qc4, getR, qc5, qc6, qc7, qc8, qc9, Array.toList, List.map, Option.isSome_none, bne_self_eq_false, reduceIte, reduceCtorEq, Nat.reduceEqDiff, Nat.reduceAdd, Nat.reduceMul, Nat.reduceSub, Nat.reduceBEq, Nat.reduceLeDiff, Int.reduceEq, Int.reduceLT, Int.reduceLE, Int.reduceGE, Int.reduceGT, Int.reduceBEq, Int.reduceBNe, Int.reduceToNat, Int.reduceNeg, Int.reduceSub, Int.reduceAdd, Int.reduceMul, finish, qf0, resOf, resa, qf1, qf2, qf3, keep, qf4, qf5, qf6, qe9, qf, rr, by1, curC, if_neg hi, xr, nh]
theorem e53 (d : Nat) (b : List Int) (n : Int) (s : Nat × Int) (hb : b.length ≤ 2 ^ 39) (hn : 0 < n) : evFun E (d+2) 53 [.ptr 0 [] 0, vi n] [curC b s] = some (vi (bel b n s).1, [some (curC b (bel b n s).2)]) := by
  refine evFun_body b53 ?_
  have h0 : decide (n ≤ 0) = false := by simp; omega
  have hz : decide (n = 0) = false := by simp; omega
  have hkl : ∀ s, (curC b s).any qb8 = false := fun s => rfl
  have hsn : ∀ s, qf2 (curC b s) = true := fun s => rfl
  cases hc : decide (n ≤ 256) with
  | true =>
    have hc' := of_decide_eq_true hc
    simp (maxDischargeDepth := 8) only [vv, cc, bb, qa, qa0, clash, meets, execOp, evBox, opnd, qa1, bin, convHM, qa2, qa3, qa4, qa5, qa6, qa7, zOK, qa8, qa9, borL, isSl, qb, qb0, qb1, qb2, qb3, qb4, cellsOf, TD.agg, qb5, qb6, qb7, qb8, qb9, qc, qc0, qc1, setAt, qc2, qc3, qc4, getR, qc5, qc6, qc7, qc8, qc9, Array.toList, List.map, Option.isSome_none, bne_self_eq_false, reduceIte, reduceCtorEq, Nat.reduceEqDiff, Nat.reduceAdd, Nat.reduceMul, Nat.reduceSub, Nat.reduceBEq, Nat.reduceLeDiff, Int.reduceEq, Int.reduceLT, Int.reduceLE, Int.reduceGE, Int.reduceGT, Int.reduceBEq, Int.reduceBNe, Int.reduceToNat, Int.reduceNeg, Int.reduceSub, Int.reduceAdd, Int.reduceMul, qd, qd0, qd1, qd2, qd3, qd4, qd5, qd6, qd7, qd8, qd9, qe, qe0, qe1, qe2, qe3, qe4, qe5, qe6, qe7, qe8, qe9, qf, rr, Tryd.f53, h0, hz, hc, e72 _ _ _ hb, hkl]
    simp only [vv, ff, qa, qa0, clash, meets, execOp, evBox, opnd, qa1, bin, convHM, qa2, qa3, qa4, qa5, qa6, qa7, zOK, qa8, qa9, borL, isSl, qb, qb0, qb1, qb2, qb3, qb4, cellsOf, TD.agg, qb5, qb6, qb7, qb8, qb9, qc, qc0, qc1, setAt, qc2, qc3, qc4, getR, qc5, qc6, qc7, qc8, qc9, Array.toList, List.map, Option.isSome_none, bne_self_eq_false, reduceIte, reduceCtorEq, Nat.reduceEqDiff, Nat.reduceAdd, Nat.reduceMul, Nat.reduceSub, Nat.reduceBEq, Nat.reduceLeDiff, Int.reduceEq, Int.reduceLT, Int.reduceLE, Int.reduceGE, Int.reduceGT, Int.reduceBEq, Int.reduceBNe, Int.reduceToNat, Int.reduceNeg, Int.reduceSub, Int.reduceAdd, Int.reduceMul, finish, qf0, resOf, resa, qf1, qf2, qf3, keep, qf4, qf5, qf6, qe9, qf, rr, hsn, bel, if_neg (show ¬ n ≤ 0 by omega), if_pos hc']
  | false =>
    have hc' := of_decide_eq_false hc
    have b1 := by1_b b s
    have b2 := by1_b b (by1 b s).2
    have b3 := by1_b b (by1 b (by1 b s).2).2
    have b4 := by1_b b (by1 b (by1 b (by1 b s).2).2).2
    have w1 : IntKind.i64.wrap ((by1 b s).1 * 16777216) = (by1 b s).1 * 16777216 := wrap64 (by omega) (by omega)
    have w2 : IntKind.i64.wrap ((by1 b (by1 b s).2).1 * 65536) = (by1 b (by1 b s).2).1 * 65536 := wrap64 (by omega) (by omega)
    have w3 : IntKind.i64.wrap ((by1 b s).1 * 16777216 + (by1 b (by1 b s).2).1 * 65536) = (by1 b s).1 * 16777216 + (by1 b (by1 b s).2).1 * 65536 := wrap64 (by omega) (by omega)
    have w4 : IntKind.i64.wrap ((by1 b (by1 b (by1 b s).2).2).1 * 256) = (by1 b (by1 b (by1 b s).2).2).1 * 256 := wrap64 (by omega) (by omega)
    have w5 : IntKind.i64.wrap ((by1 b s).1 * 16777216 + (by1 b (by1 b s).2).1 * 65536 + (by1 b (by1 b (by1 b s).2).2).1 * 256) = (by1 b s).1 * 16777216 + (by1 b (by1 b s).2).1 * 65536 + (by1 b (by1 b (by1 b s).2).2).1 * 256 := wrap64 (by omega) (by omega)
    have w6 : IntKind.i64.wrap ((by1 b s).1 * 16777216 + (by1 b (by1 b s).2).1 * 65536 + (by1 b (by1 b (by1 b s).2).2).1 * 256 + (by1 b (by1 b (by1 b (by1 b s).2).2).2).1) = (by1 b s).1 * 16777216 + (by1 b (by1 b s).2).1 * 65536 + (by1 b (by1 b (by1 b s).2).2).1 * 256 + (by1 b (by1 b (by1 b (by1 b s).2).2).2).1 := wrap64 (by omega) (by omega)
    simp (maxDischargeDepth := 8) only [vv, cc, bb, qa, qa0, clash, meets, execOp, evBox, opnd, qa1, bin, convHM, qa2, qa3, qa4, qa5, qa6, qa7, zOK, qa8, qa9, borL, isSl, qb, qb0, qb1, qb2, qb3, qb4, cellsOf, TD.agg, qb5, qb6, qb7, qb8, qb9, qc, qc0, qc1, setAt, qc2, qc3, qc4, getR, qc5, qc6, qc7, qc8, qc9, Array.toList, List.map, Option.isSome_none, bne_self_eq_false, reduceIte, reduceCtorEq, Nat.reduceEqDiff, Nat.reduceAdd, Nat.reduceMul, Nat.reduceSub, Nat.reduceBEq, Nat.reduceLeDiff, Int.reduceEq, Int.reduceLT, Int.reduceLE, Int.reduceGE, Int.reduceGT, Int.reduceBEq, Int.reduceBNe, Int.reduceToNat, Int.reduceNeg, Int.reduceSub, Int.reduceAdd, Int.reduceMul, qd, qd0, qd1, qd2, qd3, qd4, qd5, qd6, qd7, qd8, qd9, qe, qe0, qe1, qe2, qe3, qe4, qe5, qe6, qe7, qe8, qe9, qf, rr, Tryd.f53, h0, hz, hc, e72 _ _ _ hb, hkl, w1, w2, w3, w4, w5, w6]
    simp only [vv, ff, qa, qa0, clash, meets, execOp, evBox, opnd, qa1, bin, convHM, qa2, qa3, qa4, qa5, qa6, qa7, zOK, qa8, qa9, borL, isSl, qb, qb0, qb1, qb2, qb3, qb4, cellsOf, TD.agg, qb5, qb6, qb7, qb8, qb9, qc, qc0, qc1, setAt, qc2, qc3, qc4, getR, qc5, qc6, qc7, qc8, qc9, Array.toList, List.map, Option.isSome_none, bne_self_eq_false, reduceIte, reduceCtorEq, Nat.reduceEqDiff, Nat.reduceAdd, Nat.reduceMul, Nat.reduceSub, Nat.reduceBEq, Nat.reduceLeDiff, Int.reduceEq, Int.reduceLT, Int.reduceLE, Int.reduceGE, Int.reduceGT, Int.reduceBEq, Int.reduceBNe, Int.reduceToNat, Int.reduceNeg, Int.reduceSub, Int.reduceAdd, Int.reduceMul, finish, qf0, resOf, resa, qf1, qf2, qf3, keep, qf4, qf5, qf6, qe9, qf, rr, hsn, bel, if_neg (show ¬ n ≤ 0 by omega), if_neg hc']
def newH (b : List Int) : Nat → Int
  | 0 => IntKind.i64.wrap (88088 + (b.length : Int))
  | i + 1 => andI (IntKind.i64.wrap (IntKind.i64.wrap (IntKind.i64.wrap (newH b i * 131) + IntKind.i64.wrap (b.getD i 0)) + 7)) 1073741823
def newN (b : List Int) : Nat := if b.length ≤ 4000 then b.length else 4000
theorem e34 (d : Nat) (b : List Int) (hb : b.length ≤ 2 ^ 39) : evFun E (d+1) 34 [.sl .fgn 1 b.length none (b.map (iv .u8))] [] = some (.ptr 0 [] 0, [some (curC b (0, newH b (newN b)))]) := by
  refine evFun_body b34 ?_
  simp only [vv, qa, qa0, clash, meets, execOp, evBox, opnd, qa1, bin, convHM, qa2, qa3, qa4, qa5, qa6, qa7, zOK, qa8, qa9, borL, isSl, qb, qb0, qb1, qb2, qb3, qb4, cellsOf, TD.agg, qb5, qb6, qb7, qb8, qb9, qc, qc0, qc1, setAt, qc2, qc3, qc4, getR, qc5, qc6, qc7, qc8, qc9, Array.toList, List.map, Option.isSome_none, bne_self_eq_false, reduceIte, reduceCtorEq, Nat.reduceEqDiff, Nat.reduceAdd, Nat.reduceMul, Nat.reduceSub, Nat.reduceBEq, Nat.reduceLeDiff, Int.reduceEq, Int.reduceLT, Int.reduceLE, Int.reduceGE, Int.reduceGT, Int.reduceBEq, Int.reduceBNe, Int.reduceToNat, Int.reduceNeg, Int.reduceSub, Int.reduceAdd, Int.reduceMul, rr, Tryd.f34]
  have hnn : newN b ≤ b.length ∧ newN b ≤ 4000 := by unfold newN; split <;> omega
  refine loop_go (fun i => {T := tp [(0, .sl .fgn 1 b.length none (b.map (iv .u8))), (3, vi (newH b i)), (4, vi (i : Int))], H := hp [], nx := 0}) (newN b) ?_ (lt_LF (by omega)) (fun i hi Kn hK => ?_) (fun Kn => ?_)
  · simp only [vv, ff, norm, Array.toList, List.map, Option.isSome_none, bne_self_eq_false, reduceIte, reduceCtorEq, Nat.reduceEqDiff, Nat.reduceAdd, Nat.reduceMul, Nat.reduceSub, Nat.reduceBEq, Nat.reduceLeDiff, Int.reduceEq, Int.reduceLT, Int.reduceLE, Int.reduceGE, Int.reduceGT, Int.reduceBEq, Int.reduceBNe, Int.reduceToNat, Int.reduceNeg, Int.reduceSub, Int.reduceAdd, Int.reduceMul, finish, qf0, resOf, resa, qf1, qf2, qf3, keep, qf4, qf5, qf6, qe9, qf, Int.natCast_zero, newH]
  · have hi1 : i < b.length := by omega
    have hi2 : decide ((i : Int) < 4000) = true := by simp; omega
    have hg : b[i]?.getD 0 = b[i] := by rw [List.getElem?_eq_getElem hi1]; rfl
    simp only [vv, qa, qa0, clash, meets, execOp, evBox, opnd, qa1, bin, convHM, qa2, qa3, qa4, qa5, qa6, qa7, zOK, qa8, qa9, borL, isSl, qb, qb0, qb1, qb2, qb3, qb4, cellsOf, TD.agg, qb5, qb6, qb7, qb8, qb9, qc, qc0, qc1, setAt, qc2, qc3, qc4, getR, qc5, qc6, qc7, qc8, qc9, Array.toList, List.map, Option.isSome_none, bne_self_eq_false, reduceIte, reduceCtorEq, Nat.reduceEqDiff, Nat.reduceAdd, Nat.reduceMul, Nat.reduceSub, Nat.reduceBEq, Nat.reduceLeDiff, Int.reduceEq, Int.reduceLT, Int.reduceLE, Int.reduceGE, Int.reduceGT, Int.reduceBEq, Int.reduceBNe, Int.reduceToNat, Int.reduceNeg, Int.reduceSub, Int.reduceAdd, Int.reduceMul, rr, lt_ok hi1, hi2, map_get hi1, wrap_succ hi1 hb, bin_andI]
    refine hK _ ?_
    simp only [vv, ff, norm, Array.toList, List.map, Option.isSome_none, bne_self_eq_false, reduceIte, reduceCtorEq, Nat.reduceEqDiff, Nat.reduceAdd, Nat.reduceMul, Nat.reduceSub, Nat.reduceBEq, Nat.reduceLeDiff, Int.reduceEq, Int.reduceLT, Int.reduceLE, Int.reduceGE, Int.reduceGT, Int.reduceBEq, Int.reduceBNe, Int.reduceToNat, Int.reduceNeg, Int.reduceSub, Int.reduceAdd, Int.reduceMul, finish, qf0, resOf, resa, qf1, qf2, qf3, keep, qf4, qf5, qf6, qe9, qf, newH, hg]
  · by_cases hl : b.length ≤ 4000
    · have e : newN b = b.length := by unfold newN; rw [if_pos hl]
      rw [e]
      simp only [vv, qa, qa0, clash, meets, execOp, evBox, opnd, qa1, bin, convHM, qa2, qa3, qa4, qa5, qa6, qa7, zOK, qa8, qa9, borL, isSl, qb, qb0, qb1, qb2, qb3, qb4, cellsOf, TD.agg, qb5, qb6, qb7, qb8, qb9, qc, qc0, qc1, setAt, qc2, qc3, qc4, getR, qc5, qc6, qc7, qc8, qc9, Array.toList, List.map, Option.isSome_none, bne_self_eq_false, reduceIte, reduceCtorEq, Nat.reduceEqDiff, Nat.reduceAdd, Nat.reduceMul, Nat.reduceSub, Nat.reduceBEq, Nat.reduceLeDiff, Int.reduceEq, Int.reduceLT, Int.reduceLE, Int.reduceGE, Int.reduceGT, Int.reduceBEq, Int.reduceBNe, Int.reduceToNat, Int.reduceNeg, Int.reduceSub, Int.reduceAdd, Int.reduceMul, rr, lt_no]
      simp only [vv, ff, qa, qa0, clash, meets, execOp, evBox, opnd, qa1, bin, convHM, qa2, qa3, qa4, qa5, qa6, qa7, zOK, qa8, qa9, borL, isSl, qb, qb0, qb1, qb2, qb3, qb4, cellsOf, TD.agg, qb5, qb6, qb7, qb8, qb9, qc, qc0, qc1, setAt, qc2, qc3, qc4, getR, qc5, qc6, qc7, qc8, qc9, Array.toList, List.map, Option.isSome_none, bne_self_eq_false, reduceIte, reduceCtorEq, Nat.reduceEqDiff, Nat.reduceAdd, Nat.reduceMul, Nat.reduceSub, Nat.reduceBEq, Nat.reduceLeDiff, Int.reduceEq, Int.reduceLT, Int.reduceLE, Int.reduceGE, Int.reduceGT, Int.reduceBEq, Int.reduceBNe, Int.reduceToNat, Int.reduceNeg, Int.reduceSub, Int.reduceAdd, Int.reduceMul, finish, qf0, resOf, resa, qf1, qf2, qf3, keep, qf4, qf5, qf6, qe9, qf, rr, curC]
    · have e : newN b = 4000 := by unfold newN; rw [if_neg hl]
      rw [e]
      have h1 : decide (((4000 : Nat) : Int) < (b.length : Int)) = true := by simp; omega
      have h2 : decide (((4000 : Nat) : Int) < 4000) = false := by decide
      simp only [vv, qa, qa0, clash, meets, execOp, evBox, opnd, qa1, bin, convHM, qa2, qa3, qa4, qa5, qa6, qa7, zOK, qa8, qa9, borL, isSl, qb, qb0, qb1, qb2, qb3, qb4, cellsOf, TD.agg, qb5, qb6, qb7, qb8, qb9, qc, qc0, qc1, setAt, qc2, qc3, qc4, getR, qc5, qc6, qc7, qc8, qc9, Array.toList, List.map, Option.isSome_none, bne_self_eq_false, reduceIte, reduceCtorEq, Nat.reduceEqDiff, Nat.reduceAdd, Nat.reduceMul, Nat.reduceSub, Nat.reduceBEq, Nat.reduceLeDiff, Int.reduceEq, Int.reduceLT, Int.reduceLE, Int.reduceGE, Int.reduceGT, Int.reduceBEq, Int.reduceBNe, Int.reduceToNat, Int.reduceNeg, Int.reduceSub, Int.reduceAdd, Int.reduceMul, rr, h1, h2]
      simp only [vv, ff, qa, qa0, clash, meets, execOp, evBox, opnd, qa1, bin, convHM, qa2, qa3, qa4, qa5, qa6, qa7, zOK, qa8, qa9, borL, isSl, qb, qb0, qb1, qb2, qb3, qb4, cellsOf, TD.agg, qb5, qb6, qb7, qb8, qb9, qc, qc0, qc1, setAt, qc2, qc3, qc4, getR, qc5, qc6, qc7, qc8, qc9, Array.toList, List.map, Option.isSome_none, bne_self_eq_false, reduceIte, reduceCtorEq, Nat.reduceEqDiff, Nat.reduceAdd, Nat.reduceMul, Nat.reduceSub, Nat.reduceBEq, Nat.reduceLeDiff, Int.reduceEq, Int.reduceLT, Int.reduceLE, Int.reduceGE, Int.reduceGT, Int.reduceBEq, Int.reduceBNe, Int.reduceToNat, Int.reduceNeg, Int.reduceSub, Int.reduceAdd, Int.reduceMul, finish, qf0, resOf, resa, qf1, qf2, qf3, keep, qf4, qf5, qf6, qe9, qf, rr, curC]

structure DInv0 (cs : List AV) : Prop where
  k : isK .u8 cs = true
  len : cs.length = 40
  b8 : B8 (un cs)
theorem DInv0.step {cs : List AV} (h : DInv0 cs) (c r t : Int) : DInv0 (wrC cs c r t) := ⟨isK_wrC h.k _ _ _, by rw [wrC_len]; exact h.len, by rw [un_wrC]; exact S.B8.wrV h.b8 _ _ _⟩
end Go.Proofs.YtgdldmfkgijkaaaDoor.VH.S
end

section
namespace Go.Proofs.YtgdldmfkgijkaaaDoor.VH.S
open Go.Proofs
set_option maxRecDepth 100000
set_option maxHeartbeats 8000000
set_option linter.unusedSimpArgs false

/- Bytes of the code. -/
def atV (b : List Int) (k : Nat) : Int := if k < b.length then b.getD k 0 else ((k * 7 + b.length : Nat) : Int).tmod 256
theorem atV_b {b : List Int} (hb : B8 b) (k : Nat) : 0 ≤ atV b k ∧ atV b k < 256 := by
  unfold atV
  split
  · rename_i h
    rw [List.getD_eq_getElem?_getD, List.getElem?_eq_getElem h]
    exact hb _ (List.getElem_mem _)
  · exact ⟨Int.tmod_nonneg _ (by omega), Int.tmod_lt_of_pos _ (by decide)⟩
theorem e20 (d : Nat) (b : List Int) (k : Nat) (hk : k ≤ 1000) (hl : b.length ≤ 2 ^ 39) (hb : B8 b) : evFun E (d+1) 20 [.sl .fgn 1 b.length none (b.map (iv .u8)), vi k] [] = some (vi (atV b k), []) := by
  refine evFun_body b20 ?_
  by_cases h : k < b.length
  · have hx := hb _ (List.getElem_mem h)
    have hw : IntKind.i64.wrap b[k] = b[k] := wrap64 (by omega) (by omega)
    have hg : b[k]?.getD 0 = b[k] := by rw [List.getElem?_eq_getElem h]; rfl
    simp only [vv, qa, qa0, clash, meets, execOp, evBox, opnd, qa1, bin, convHM, qa2, qa3, qa4, qa5, qa6, qa7, zOK, qa8, qa9, borL, isSl, qb, qb0, qb1, qb2, qb3, qb4, cellsOf, TD.agg, qb5, qb6, qb7, qb8, qb9, qc, qc0, qc1, setAt, qc2, qc3, qc4, getR, qc5, qc6, qc7, qc8, qc9, Array.toList, List.map, Option.isSome_none, bne_self_eq_false, reduceIte, reduceCtorEq, Nat.reduceEqDiff, Nat.reduceAdd, Nat.reduceMul, Nat.reduceSub, Nat.reduceBEq, Nat.reduceLeDiff, Int.reduceEq, Int.reduceLT, Int.reduceLE, Int.reduceGE, Int.reduceGT, Int.reduceBEq, Int.reduceBNe, Int.reduceToNat, Int.reduceNeg, Int.reduceSub, Int.reduceAdd, Int.reduceMul, rr, Tryd.f20, lt_ok h, map_get h, hw]
    simp only [vv, ff, qa, qa0, clash, meets, execOp, evBox, opnd, qa1, bin, convHM, qa2, qa3, qa4, qa5, qa6, qa7, zOK, qa8, qa9, borL, isSl, qb, qb0, qb1, qb2, qb3, qb4, cellsOf, TD.agg, qb5, qb6, qb7, qb8, qb9, qc, qc0, qc1, setAt, qc2, qc3, qc4, getR, qc5, qc6, qc7, qc8, qc9, Array.toList, List.map, Option.isSome_none, bne_self_eq_false, reduceIte, reduceCtorEq, Nat.reduceEqDiff, Nat.reduceAdd, Nat.reduceMul, Nat.reduceSub, Nat.reduceBEq, Nat.reduceLeDiff, Int.reduceEq, Int.reduceLT, Int.reduceLE, Int.reduceGE, Int.reduceGT, Int.reduceBEq, Int.reduceBNe, Int.reduceToNat, Int.reduceNeg, Int.reduceSub, Int.reduceAdd, Int.reduceMul, finish, qf0, resOf, resa, qf1, qf2, qf3, keep, qf4, qf5, qf6, qe9, qf, rr, atV, if_pos h, hg]
  · have hd : decide ((k : Int) < (b.length : Int)) = false := by simp; omega
    have w1 : IntKind.i64.wrap ((k : Int) * 7) = (k : Int) * 7 := wrap64 (by omega) (by omega)
    have w2 : IntKind.i64.wrap ((k : Int) * 7 + (b.length : Int)) = ((k * 7 + b.length : Nat) : Int) := by rw [wrap64 (by omega) (by omega)]; omega
    simp only [vv, qa, qa0, clash, meets, execOp, evBox, opnd, qa1, bin, convHM, qa2, qa3, qa4, qa5, qa6, qa7, zOK, qa8, qa9, borL, isSl, qb, qb0, qb1, qb2, qb3, qb4, cellsOf, TD.agg, qb5, qb6, qb7, qb8, qb9, qc, qc0, qc1, setAt, qc2, qc3, qc4, getR, qc5, qc6, qc7, qc8, qc9, Array.toList, List.map, Option.isSome_none, bne_self_eq_false, reduceIte, reduceCtorEq, Nat.reduceEqDiff, Nat.reduceAdd, Nat.reduceMul, Nat.reduceSub, Nat.reduceBEq, Nat.reduceLeDiff, Int.reduceEq, Int.reduceLT, Int.reduceLE, Int.reduceGE, Int.reduceGT, Int.reduceBEq, Int.reduceBNe, Int.reduceToNat, Int.reduceNeg, Int.reduceSub, Int.reduceAdd, Int.reduceMul, rr, Tryd.f20, hd, w1, w2]
    simp only [vv, ff, qa, qa0, clash, meets, execOp, evBox, opnd, qa1, bin, convHM, qa2, qa3, qa4, qa5, qa6, qa7, zOK, qa8, qa9, borL, isSl, qb, qb0, qb1, qb2, qb3, qb4, cellsOf, TD.agg, qb5, qb6, qb7, qb8, qb9, qc, qc0, qc1, setAt, qc2, qc3, qc4, getR, qc5, qc6, qc7, qc8, qc9, Array.toList, List.map, Option.isSome_none, bne_self_eq_false, reduceIte, reduceCtorEq, Nat.reduceEqDiff, Nat.reduceAdd, Nat.reduceMul, Nat.reduceSub, Nat.reduceBEq, Nat.reduceLeDiff, Int.reduceEq, Int.reduceLT, Int.reduceLE, Int.reduceGE, Int.reduceGT, Int.reduceBEq, Int.reduceBNe, Int.reduceToNat, Int.reduceNeg, Int.reduceSub, Int.reduceAdd, Int.reduceMul, finish, qf0, resOf, resa, qf1, qf2, qf3, keep, qf4, qf5, qf6, qe9, qf, rr, atV, if_neg h]
theorem e6 (d : Nat) (tg : Tg) (cap : Option Nat) (n : Nat) (cs : List AV) : evFun E (d+1) 6 [.sl tg 1 n cap cs] [] = some (vb (decide ((n : Int) > 1048576)), []) := by
  refine evFun_body b6 ?_
  simp only [vv, qa, qa0, clash, meets, execOp, evBox, opnd, qa1, bin, convHM, qa2, qa3, qa4, qa5, qa6, qa7, zOK, qa8, qa9, borL, isSl, qb, qb0, qb1, qb2, qb3, qb4, cellsOf, TD.agg, qb5, qb6, qb7, qb8, qb9, qc, qc0, qc1, setAt, qc2, qc3, qc4, getR, qc5, qc6, qc7, qc8, qc9, Array.toList, List.map, Option.isSome_none, bne_self_eq_false, reduceIte, reduceCtorEq, Nat.reduceEqDiff, Nat.reduceAdd, Nat.reduceMul, Nat.reduceSub, Nat.reduceBEq, Nat.reduceLeDiff, Int.reduceEq, Int.reduceLT, Int.reduceLE, Int.reduceGE, Int.reduceGT, Int.reduceBEq, Int.reduceBNe, Int.reduceToNat, Int.reduceNeg, Int.reduceSub, Int.reduceAdd, Int.reduceMul, rr, Tryd.f6]
  simp only [vv, ff, qa, qa0, clash, meets, execOp, evBox, opnd, qa1, bin, convHM, qa2, qa3, qa4, qa5, qa6, qa7, zOK, qa8, qa9, borL, isSl, qb, qb0, qb1, qb2, qb3, qb4, cellsOf, TD.agg, qb5, qb6, qb7, qb8, qb9, qc, qc0, qc1, setAt, qc2, qc3, qc4, getR, qc5, qc6, qc7, qc8, qc9, Array.toList, List.map, Option.isSome_none, bne_self_eq_false, reduceIte, reduceCtorEq, Nat.reduceEqDiff, Nat.reduceAdd, Nat.reduceMul, Nat.reduceSub, Nat.reduceBEq, Nat.reduceLeDiff, Int.reduceEq, Int.reduceLT, Int.reduceLE, Int.reduceGE, Int.reduceGT, Int.reduceBEq, Int.reduceBNe, Int.reduceToNat, Int.reduceNeg, Int.reduceSub, Int.reduceAdd, Int.reduceMul, finish, qf0, resOf, resa, qf1, qf2, qf3, keep, qf4, qf5, qf6, qe9, qf, rr]
end Go.Proofs.YtgdldmfkgijkaaaDoor.VH.S
end

section
namespace Go.Proofs.YtgdldmfkgijkaaaDoor.VH.S
open Go.Proofs
set_option maxRecDepth 100000
set_option maxHeartbeats 8000000
set_option linter.unusedSimpArgs false

/- Drawn data, texts, numbers. -/
theorem cur_own (b : List Int) (s : Nat × Int) : (curC b s).any qb8 = false := rfl
theorem cur_snap (b : List Int) (s : Nat × Int) : qf2 (curC b s) = true := rfl
theorem e76 (d : Nat) (b : List Int) (s : Nat × Int) (hb : b.length ≤ 2 ^ 39) (tg : Tg) (cap : Option Nat) (n : Nat) (L : List (List UInt8)) (hL : L.length = n) (h0 : 0 < n) : evFun E (d+3) 76 [.ptr 0 [] 0, .sl tg 1 n cap (L.map vs)] [curC b s] = some (vs (L.getD (bel b n s).1.toNat []), [some (curC b (bel b n s).2)]) := by
  have hB := e53 d b n s hb (by omega)
  obtain ⟨k0, k1⟩ := bel_b b (n := (n : Int)) (by omega) s
  generalize (bel b n s).2 = s0 at hB ⊢
  generalize (bel b n s).1 = k at hB k0 k1 ⊢
  have hg : g1 (L.map vs) k.toNat = some (vs (L.getD k.toNat [])) := by
    rw [g1, List.getElem?_map, List.getD_eq_getElem?_getD, List.getElem?_eq_getElem (by omega)]; rfl
  refine evFun_body b76 ?_
  (have fz := ga2 hB hg; repeat' (first | simp (maxDischargeDepth := 8) only [go_sem, rr, reduceIte, reduceCtorEq, Nat.reduceEqDiff, Nat.reduceAdd, Nat.reduceMul, Nat.reduceSub, Nat.reduceBEq, Nat.reduceLeDiff, Int.reduceEq, Int.reduceLT, Int.reduceLE, Int.reduceGE, Int.reduceGT, Int.reduceBEq, Int.reduceBNe, Int.reduceToNat, Int.reduceNeg, Int.reduceSub, Int.reduceAdd, Int.reduceMul, fz, cur_own, cur_snap, Tryd.f76] | (with_reducible refine qg9 ?_ ?_; focus (first | (simp (maxDischargeDepth := 8) only [bb, kk, fz, cur_own, cur_snap]; done) | kernel_rfl)) | ((with_reducible first | refine qf7 ?_ ?_ | refine qf8 ?_ ?_ | refine qf9 ?_ ?_ | refine qg ?_ ?_ | refine qg0 ?_ ?_ | refine qg1 ?_ ?_ | refine qg2 ?_ ?_); focus (first | assumption | omega | (simp only [bz, fz, cur_own, cur_snap]; omega))) | ((with_reducible first | refine qg3 ?_ ?_ | refine qg4 ?_ ?_ | refine qg5 ?_ ?_); focus (first | assumption | omega | (simp only [bz, fz, cur_own, cur_snap]; omega))) | ((with_reducible first | refine g1_u8w ?_ ?_ | refine qg7 ?_ ?_); (focus ((repeat' (with_reducible apply And.intro)) <;> (first | assumption | omega | (simp only [bz, fz, cur_own, cur_snap]; omega) | (simp (maxDischargeDepth := 8) only [bb, fz, cur_own, cur_snap]; done)))); intro _) | ((with_reducible refine g1_64w ?_ ?_); (focus ((repeat' (with_reducible apply And.intro)) <;> (first | assumption | omega | (simp only [bz, fz, cur_own, cur_snap]; omega) | (simp (maxDischargeDepth := 8) only [bb, fz, cur_own, cur_snap]; done)))); intro _)))
theorem e75g (d : Nat) (b : List Int) (s : Nat × Int) (hb : b.length ≤ 2 ^ 39) (tg : Tg) (cap : Option Nat) (n : Nat) (L : List Int) (hL : L.length = n) (h0 : 0 < n) : evFun E (d+3) 75 [.ptr 0 [] 0, .sl tg 1 n cap (L.map (iv .i64))] [curC b s] = some (vi (L.getD (bel b n s).1.toNat 0), [some (curC b (bel b n s).2)]) := by
  have hB := e53 d b n s hb (by omega)
  obtain ⟨k0, k1⟩ := bel_b b (n := (n : Int)) (by omega) s
  generalize (bel b n s).2 = s0 at hB ⊢
  generalize (bel b n s).1 = k at hB k0 k1 ⊢
  have hg : g1 (L.map (iv .i64)) k.toNat = some (vi (L.getD k.toNat 0)) := by
    rw [g1, List.getElem?_map, List.getD_eq_getElem?_getD, List.getElem?_eq_getElem (by omega)]; rfl
  refine evFun_body b75 ?_
  (have fz := ga2 hB hg; repeat' (first | simp (maxDischargeDepth := 8) only [go_sem, rr, reduceIte, reduceCtorEq, Nat.reduceEqDiff, Nat.reduceAdd, Nat.reduceMul, Nat.reduceSub, Nat.reduceBEq, Nat.reduceLeDiff, Int.reduceEq, Int.reduceLT, Int.reduceLE, Int.reduceGE, Int.reduceGT, Int.reduceBEq, Int.reduceBNe, Int.reduceToNat, Int.reduceNeg, Int.reduceSub, Int.reduceAdd, Int.reduceMul, fz, cur_own, cur_snap, Tryd.f75] | (with_reducible refine qg9 ?_ ?_; focus (first | (simp (maxDischargeDepth := 8) only [bb, kk, fz, cur_own, cur_snap]; done) | kernel_rfl)) | ((with_reducible first | refine qf7 ?_ ?_ | refine qf8 ?_ ?_ | refine qf9 ?_ ?_ | refine qg ?_ ?_ | refine qg0 ?_ ?_ | refine qg1 ?_ ?_ | refine qg2 ?_ ?_); focus (first | assumption | omega | (simp only [bz, fz, cur_own, cur_snap]; omega))) | ((with_reducible first | refine qg3 ?_ ?_ | refine qg4 ?_ ?_ | refine qg5 ?_ ?_); focus (first | assumption | omega | (simp only [bz, fz, cur_own, cur_snap]; omega))) | ((with_reducible first | refine g1_u8w ?_ ?_ | refine qg7 ?_ ?_); (focus ((repeat' (with_reducible apply And.intro)) <;> (first | assumption | omega | (simp only [bz, fz, cur_own, cur_snap]; omega) | (simp (maxDischargeDepth := 8) only [bb, fz, cur_own, cur_snap]; done)))); intro _) | ((with_reducible refine g1_64w ?_ ?_); (focus ((repeat' (with_reducible apply And.intro)) <;> (first | assumption | omega | (simp only [bz, fz, cur_own, cur_snap]; omega) | (simp (maxDischargeDepth := 8) only [bb, fz, cur_own, cur_snap]; done)))); intro _)))
end Go.Proofs.YtgdldmfkgijkaaaDoor.VH.S
end

section
namespace Go.Proofs.YtgdldmfkgijkaaaDoor.VH.S
open Go.Proofs
set_option maxRecDepth 100000
set_option maxHeartbeats 8000000
set_option linter.unusedSimpArgs false

/- Names. -/
def setC (g : Nat → Bool) : List AV := (List.range 256).map fun c => vb (g c)
theorem setC_len (g : Nat → Bool) : (setC g).length = 256 := by simp [setC]
theorem setC_get (g : Nat → Bool) {c : Nat} (h : c < 256) : g1 (setC g) c = some (vb (g c)) := by simp [g1, setC, h]
theorem setC_set (g : Nat → Bool) {c : Nat} (h : c < 256) : (setC g).set c (vb true) = setC (fun x => decide (x = c) || g x) := by
  apply List.ext_getElem?
  intro j
  by_cases e : c = j
  · subst e; rw [List.getElem?_set_self (by rw [setC_len]; exact h)]; simp [setC, h]
  · rw [List.getElem?_set_ne e]
    have : ¬ j = c := fun h => e h.symm
    by_cases hj : j < 256
    · simp [setC, hj, this]
    · simp [setC, hj]
theorem noSnapL_bool : ∀ l : List Bool, qf2 (l.map vb) = true
  | [] => rfl
  | b :: l => by simp only [List.map_cons, qf2, qf1, noSnapL_bool l]; rfl
theorem setC_map (g : Nat → Bool) : setC g = ((List.range 256).map g).map vb := by simp [setC]
theorem setC_snap (g : Nat → Bool) : qf2 (setC g) = true := by rw [setC_map]; exact noSnapL_bool _
theorem anyOwn_bool : ∀ l : List Bool, (l.map vb).any qb8 = false
  | [] => rfl
  | b :: l => by simp only [List.map_cons, List.any_cons, anyOwn_bool l, qb8]; rfl
theorem setC_own (g : Nat → Bool) : (setC g).any qb8 = false := by rw [setC_map]; exact anyOwn_bool _
theorem absorb_bool : ∀ l : List Bool, qc0 (l.map vb) = .ret (l.map vb)
  | [] => rfl
  | b :: l => by simp only [List.map_cons, qc0, absorb_bool l, qc1, guardB, qc4, cond_true, HM.bind]
theorem setC_abs (g : Nat → Bool) : qc0 (setC g) = .ret (setC g) := by rw [setC_map, absorb_bool]
theorem loaded_bool (k : Nat) (p : List Nat) : ∀ (l : List Bool) (i : Nat), qb5 k p i (l.map vb) = l.map vb
  | [], i => rfl
  | b :: l, i => by simp only [List.map_cons, qb5, qb6, loaded_bool k p l]
theorem setC_load (g : Nat → Bool) (k : Nat) (p : List Nat) (i : Nat) : qb5 k p i (setC g) = setC g := by rw [setC_map, loaded_bool]
theorem getR_whole {cs : List AV} {n : Nat} (h : cs.length = n) : getR cs 0 n = some cs := getR_of h fun j hj => by rw [Nat.zero_add, List.getElem?_eq_getElem hj]
theorem keys_bool : ∀ l : List Bool, qf5 (l.map vb) = []
  | [] => rfl
  | b :: l => by simp only [List.map_cons, qf5, qf6, keys_bool l]; rfl
theorem setC_keys (g : Nat → Bool) : qf5 (setC g) = [] := by rw [setC_map]; exact keys_bool _
theorem ren_bool (ρ : Nat → Nat) : ∀ l : List Bool, qf ρ (l.map vb) = l.map vb
  | [] => rfl
  | b :: l => by simp only [List.map_cons, qf, qe9, ren_bool ρ l]
theorem setC_ren (g : Nat → Bool) (ρ : Nat → Nat) : qf ρ (setC g) = setC g := by rw [setC_map, ren_bool]
theorem setC_getR (g : Nat → Bool) : getR (setC g) 0 256 = some (setC g) := getR_whole (setC_len g)
theorem setAt_whole {cs xs : List AV} (h : xs.length = cs.length) : setAt cs 0 xs = xs := by
  rw [setAt_put _ _ _ (by omega), putL]
  simp [h]
theorem setC_setAt (f g : Nat → Bool) : setAt (setC f) 0 (setC g) = setC g := setAt_whole (by rw [setC_len, setC_len])
theorem zero256 : (List.replicate 256 (Value.bool false)).map AV.val = setC fun _ => false := by rw [setC, List.map_const', List.length_range, List.map_replicate]

theorem e103 (d : Nat) (g : Nat → Bool) (b : UInt8) : evFun E (d+1) 103 [.ptr 0 [] 0, .val (.int .u8 b.toNat)] [setC g] = some (vb (g b.toNat), [some (setC g)]) := by
  refine evFun_body b103 ?_
  have hb : b.toNat < 256 := UInt8.toNat_lt _
  have hg := setC_get g hb
  (repeat' (first | simp (maxDischargeDepth := 8) only [go_sem, rr, reduceIte, reduceCtorEq, Nat.reduceEqDiff, Nat.reduceAdd, Nat.reduceMul, Nat.reduceSub, Nat.reduceBEq, Nat.reduceLeDiff, Int.reduceEq, Int.reduceLT, Int.reduceLE, Int.reduceGE, Int.reduceGT, Int.reduceBEq, Int.reduceBNe, Int.reduceToNat, Int.reduceNeg, Int.reduceSub, Int.reduceAdd, Int.reduceMul, hg, setC_snap, Tryd.f103] | (with_reducible refine qg9 ?_ ?_; focus (first | (simp (maxDischargeDepth := 8) only [bb, kk, hg, setC_snap]; done) | kernel_rfl)) | ((with_reducible first | refine qf7 ?_ ?_ | refine qf8 ?_ ?_ | refine qf9 ?_ ?_ | refine qg ?_ ?_ | refine qg0 ?_ ?_ | refine qg1 ?_ ?_ | refine qg2 ?_ ?_); focus (first | assumption | omega | (simp only [bz, hg, setC_snap]; omega))) | ((with_reducible first | refine qg3 ?_ ?_ | refine qg4 ?_ ?_ | refine qg5 ?_ ?_); focus (first | assumption | omega | (simp only [bz, hg, setC_snap]; omega))) | ((with_reducible first | refine g1_u8w ?_ ?_ | refine qg7 ?_ ?_); (focus ((repeat' (with_reducible apply And.intro)) <;> (first | assumption | omega | (simp only [bz, hg, setC_snap]; omega) | (simp (maxDischargeDepth := 8) only [bb, hg, setC_snap]; done)))); intro _)))
/-- how many of the last bytes are in a set -/
def trR (g : Nat → Bool) (l : List UInt8) : Nat := (l.reverse.takeWhile fun b => g b.toNat).length
def trL (g : Nat → Bool) (l : List UInt8) : Nat := (l.takeWhile fun b => g b.toNat).length
theorem takeWhile_lt {α : Type} (p : α → Bool) : ∀ (l : List α) (i : Nat), i < (l.takeWhile p).length → ∃ h : i < l.length, p l[i] = true
  | [], i, h => by simp at h
  | a :: l, i, h => by
    rw [List.takeWhile_cons] at h
    split at h
    · rename_i hp
      cases i with
      | zero => exact ⟨by simp, by simpa using hp⟩
      | succ i =>
        obtain ⟨h1, h2⟩ := takeWhile_lt p l i (by simpa using h)
        exact ⟨by simp; omega, by simpa using h2⟩
    · simp at h
theorem takeWhile_at {α : Type} (p : α → Bool) : ∀ (l : List α) (h : (l.takeWhile p).length < l.length), p l[(l.takeWhile p).length] = false
  | [], h => by simp at h
  | a :: l, h => by
    cases hp : p a with
    | false => simp [List.takeWhile_cons, hp]
    | true =>
      have := takeWhile_at p l (by simpa [List.takeWhile_cons, hp] using h)
      simpa [List.takeWhile_cons, hp] using this
theorem takeWhile_all {α : Type} (p : α → Bool) : ∀ l : List α, (∀ b ∈ l, p b = true) → l.takeWhile p = l
  | [], _ => rfl
  | a :: l, h => by rw [List.takeWhile_cons, if_pos (h a (by simp)), takeWhile_all p l fun b hb => h b (by simp [hb])]
theorem takeWhile_le {α : Type} (p : α → Bool) : ∀ l : List α, (l.takeWhile p).length ≤ l.length
  | [] => by simp
  | a :: l => by
    rw [List.takeWhile_cons]
    split
    · simp [takeWhile_le p l]
    · simp
theorem e98 (d : Nat) (g : Nat → Bool) (l : List UInt8) (hl : l.length ≤ 549755813888) : evFun E (d+2) 98 [vs l, .ptr 0 [] 0] [setC g] = some (vs (l.take (l.length - trR g l)), [some (setC g)]) := by
  refine evFun_body b98 ?_
  have hle : trR g l ≤ l.length := by have := takeWhile_le (fun b : UInt8 => g b.toNat) l.reverse; simpa [trR] using this
  (repeat' (first | simp (maxDischargeDepth := 8) only [go_sem, rr, reduceIte, reduceCtorEq, Nat.reduceEqDiff, Nat.reduceAdd, Nat.reduceMul, Nat.reduceSub, Nat.reduceBEq, Nat.reduceLeDiff, Int.reduceEq, Int.reduceLT, Int.reduceLE, Int.reduceGE, Int.reduceGT, Int.reduceBEq, Int.reduceBNe, Int.reduceToNat, Int.reduceNeg, Int.reduceSub, Int.reduceAdd, Int.reduceMul, Tryd.f98] | (with_reducible refine qg9 ?_ ?_; focus (first | (simp (maxDischargeDepth := 8) only [bb, kk]; done) | kernel_rfl)) | ((with_reducible first | refine qf7 ?_ ?_ | refine qf8 ?_ ?_ | refine qf9 ?_ ?_ | refine qg ?_ ?_ | refine qg0 ?_ ?_ | refine qg1 ?_ ?_ | refine qg2 ?_ ?_); focus (first | assumption | omega | (simp only [bz]; omega))) | ((with_reducible first | refine qg3 ?_ ?_ | refine qg4 ?_ ?_ | refine qg5 ?_ ?_); focus (first | assumption | omega | (simp only [bz]; omega))) | ((with_reducible first | refine g1_u8w ?_ ?_ | refine qg7 ?_ ?_); (focus ((repeat' (with_reducible apply And.intro)) <;> (first | assumption | omega | (simp only [bz]; omega) | (simp (maxDischargeDepth := 8) only [bb]; done)))); intro _)))
  refine loop_go (fun i => {T := tp [(0, vs (l.take (l.length - i))), (1, .ptr 0 [] 0)], H := hp [some (setC g)], nx := 1}) (trR g l) ?_ (lt_LF (by omega)) (fun i hi Kn hK => ?_) (fun Kn => ?_)
  · simp only [vv, ff, norm, Array.toList, List.map, Option.isSome_none, bne_self_eq_false, reduceIte, reduceCtorEq, Nat.reduceEqDiff, Nat.reduceAdd, Nat.reduceMul, Nat.reduceSub, Nat.reduceBEq, Nat.reduceLeDiff, Int.reduceEq, Int.reduceLT, Int.reduceLE, Int.reduceGE, Int.reduceGT, Int.reduceBEq, Int.reduceBNe, Int.reduceToNat, Int.reduceNeg, Int.reduceSub, Int.reduceAdd, Int.reduceMul, finish, qf0, resOf, resa, qf1, qf2, qf3, keep, qf4, qf5, qf6, qe9, qf, Nat.sub_zero, List.take_length]
  · obtain ⟨h1, h2⟩ := takeWhile_lt (fun b : UInt8 => g b.toNat) l.reverse i hi
    rw [List.length_reverse] at h1
    rw [List.getElem_reverse] at h2
    have hlen : (l.take (l.length - i)).length = l.length - i := by simp
    have hb : g (bA (l.take (l.length - i)) (l.length - i - 1)).toNat = true := by
      rw [bA_get (by omega), List.getElem_take]
      rw [← h2]; congr 2; congr 1; omega
    have ht : (l.take (l.length - i)).take (l.length - i - 1) = l.take (l.length - (i + 1)) := by
      rw [List.take_take]; congr 1; omega
    (have fz := ga3 hlen hb ht; repeat' (first | simp (maxDischargeDepth := 8) only [go_sem, rr, reduceIte, reduceCtorEq, Nat.reduceEqDiff, Nat.reduceAdd, Nat.reduceMul, Nat.reduceSub, Nat.reduceBEq, Nat.reduceLeDiff, Int.reduceEq, Int.reduceLT, Int.reduceLE, Int.reduceGE, Int.reduceGT, Int.reduceBEq, Int.reduceBNe, Int.reduceToNat, Int.reduceNeg, Int.reduceSub, Int.reduceAdd, Int.reduceMul, fz, setC_own] | (with_reducible refine qg9 ?_ ?_; focus (first | (simp (maxDischargeDepth := 8) only [bb, kk, fz, setC_own]; done) | kernel_rfl)) | ((with_reducible first | refine qf7 ?_ ?_ | refine qf8 ?_ ?_ | refine qf9 ?_ ?_ | refine qg ?_ ?_ | refine qg0 ?_ ?_ | refine qg1 ?_ ?_ | refine qg2 ?_ ?_); focus (first | assumption | omega | (simp only [bz, fz, setC_own]; omega))) | ((with_reducible first | refine qg3 ?_ ?_ | refine qg4 ?_ ?_ | refine qg5 ?_ ?_); focus (first | assumption | omega | (simp only [bz, fz, setC_own]; omega))) | ((with_reducible first | refine g1_u8w ?_ ?_ | refine qg7 ?_ ?_); (focus ((repeat' (with_reducible apply And.intro)) <;> (first | assumption | omega | (simp only [bz, fz, setC_own]; omega) | (simp (maxDischargeDepth := 8) only [bb, fz, setC_own]; done)))); intro _) | (with_reducible apply call_elim; focus ((with_reducible first | apply e103) <;> (first | assumption | omega | (simp only [bz, fz, setC_own]; omega) | (simp (maxDischargeDepth := 8) only [bb, fz, setC_own]; done))))))
    refine hK _ ?_
    simp only [vv, ff, norm, Array.toList, List.map, Option.isSome_none, bne_self_eq_false, reduceIte, reduceCtorEq, Nat.reduceEqDiff, Nat.reduceAdd, Nat.reduceMul, Nat.reduceSub, Nat.reduceBEq, Nat.reduceLeDiff, Int.reduceEq, Int.reduceLT, Int.reduceLE, Int.reduceGE, Int.reduceGT, Int.reduceBEq, Int.reduceBNe, Int.reduceToNat, Int.reduceNeg, Int.reduceSub, Int.reduceAdd, Int.reduceMul, finish, qf0, resOf, resa, qf1, qf2, qf3, keep, qf4, qf5, qf6, qe9, qf]
  · have hlen : (l.take (l.length - trR g l)).length = l.length - trR g l := by simp
    by_cases h0 : l.length - trR g l = 0
    · have h0' : trR g l = l.length := by omega
      (repeat' (first | simp (maxDischargeDepth := 8) only [go_sem, rr, reduceIte, reduceCtorEq, Nat.reduceEqDiff, Nat.reduceAdd, Nat.reduceMul, Nat.reduceSub, Nat.reduceBEq, Nat.reduceLeDiff, Int.reduceEq, Int.reduceLT, Int.reduceLE, Int.reduceGE, Int.reduceGT, Int.reduceBEq, Int.reduceBNe, Int.reduceToNat, Int.reduceNeg, Int.reduceSub, Int.reduceAdd, Int.reduceMul, hlen, setC_snap, setC_own] | (with_reducible refine qg9 ?_ ?_; focus (first | (simp (maxDischargeDepth := 8) only [bb, kk, hlen, setC_snap, setC_own]; done) | kernel_rfl)) | ((with_reducible first | refine qf7 ?_ ?_ | refine qf8 ?_ ?_ | refine qf9 ?_ ?_ | refine qg ?_ ?_ | refine qg0 ?_ ?_ | refine qg1 ?_ ?_ | refine qg2 ?_ ?_); focus (first | assumption | omega | (simp only [bz, hlen, setC_snap, setC_own]; omega))) | ((with_reducible first | refine qg3 ?_ ?_ | refine qg4 ?_ ?_ | refine qg5 ?_ ?_); focus (first | assumption | omega | (simp only [bz, hlen, setC_snap, setC_own]; omega))) | ((with_reducible first | refine g1_u8w ?_ ?_ | refine qg7 ?_ ?_); (focus ((repeat' (with_reducible apply And.intro)) <;> (first | assumption | omega | (simp only [bz, hlen, setC_snap, setC_own]; omega) | (simp (maxDischargeDepth := 8) only [bb, hlen, setC_snap, setC_own]; done)))); intro _)))
    · have hb : g (bA (l.take (l.length - trR g l)) (l.length - trR g l - 1)).toNat = false := by
        have := takeWhile_at (fun b : UInt8 => g b.toNat) l.reverse (by rw [List.length_reverse]; show trR g l < _; omega)
        rw [List.getElem_reverse] at this
        rw [bA_get (by omega), List.getElem_take]
        rw [← this]; congr 2; congr 1; show l.length - trR g l - 1 = l.length - 1 - trR g l; omega
      (have fz := ga2 hlen hb; repeat' (first | simp (maxDischargeDepth := 8) only [go_sem, rr, reduceIte, reduceCtorEq, Nat.reduceEqDiff, Nat.reduceAdd, Nat.reduceMul, Nat.reduceSub, Nat.reduceBEq, Nat.reduceLeDiff, Int.reduceEq, Int.reduceLT, Int.reduceLE, Int.reduceGE, Int.reduceGT, Int.reduceBEq, Int.reduceBNe, Int.reduceToNat, Int.reduceNeg, Int.reduceSub, Int.reduceAdd, Int.reduceMul, fz, setC_snap, setC_own] | (with_reducible refine qg9 ?_ ?_; focus (first | (simp (maxDischargeDepth := 8) only [bb, kk, fz, setC_snap, setC_own]; done) | kernel_rfl)) | ((with_reducible first | refine qf7 ?_ ?_ | refine qf8 ?_ ?_ | refine qf9 ?_ ?_ | refine qg ?_ ?_ | refine qg0 ?_ ?_ | refine qg1 ?_ ?_ | refine qg2 ?_ ?_); focus (first | assumption | omega | (simp only [bz, fz, setC_snap, setC_own]; omega))) | ((with_reducible first | refine qg3 ?_ ?_ | refine qg4 ?_ ?_ | refine qg5 ?_ ?_); focus (first | assumption | omega | (simp only [bz, fz, setC_snap, setC_own]; omega))) | ((with_reducible first | refine g1_u8w ?_ ?_ | refine qg7 ?_ ?_); (focus ((repeat' (with_reducible apply And.intro)) <;> (first | assumption | omega | (simp only [bz, fz, setC_snap, setC_own]; omega) | (simp (maxDischargeDepth := 8) only [bb, fz, setC_snap, setC_own]; done)))); intro _) | (with_reducible apply call_elim; focus ((with_reducible first | apply e103) <;> (first | assumption | omega | (simp only [bz, fz, setC_snap, setC_own]; omega) | (simp (maxDischargeDepth := 8) only [bb, fz, setC_snap, setC_own]; done))))))
theorem e97 (d : Nat) (g : Nat → Bool) (l : List UInt8) (hl : l.length ≤ 549755813888) : evFun E (d+2) 97 [vs l, .ptr 0 [] 0] [setC g] = some (vs (l.drop (trL g l)), [some (setC g)]) := by
  refine evFun_body b97 ?_
  have hle : trL g l ≤ l.length := takeWhile_le (fun b : UInt8 => g b.toNat) l
  (repeat' (first | simp (maxDischargeDepth := 8) only [go_sem, rr, reduceIte, reduceCtorEq, Nat.reduceEqDiff, Nat.reduceAdd, Nat.reduceMul, Nat.reduceSub, Nat.reduceBEq, Nat.reduceLeDiff, Int.reduceEq, Int.reduceLT, Int.reduceLE, Int.reduceGE, Int.reduceGT, Int.reduceBEq, Int.reduceBNe, Int.reduceToNat, Int.reduceNeg, Int.reduceSub, Int.reduceAdd, Int.reduceMul, Tryd.f97] | (with_reducible refine qg9 ?_ ?_; focus (first | (simp (maxDischargeDepth := 8) only [bb, kk]; done) | kernel_rfl)) | ((with_reducible first | refine qf7 ?_ ?_ | refine qf8 ?_ ?_ | refine qf9 ?_ ?_ | refine qg ?_ ?_ | refine qg0 ?_ ?_ | refine qg1 ?_ ?_ | refine qg2 ?_ ?_); focus (first | assumption | omega | (simp only [bz]; omega))) | ((with_reducible first | refine qg3 ?_ ?_ | refine qg4 ?_ ?_ | refine qg5 ?_ ?_); focus (first | assumption | omega | (simp only [bz]; omega))) | ((with_reducible first | refine g1_u8w ?_ ?_ | refine qg7 ?_ ?_); (focus ((repeat' (with_reducible apply And.intro)) <;> (first | assumption | omega | (simp only [bz]; omega) | (simp (maxDischargeDepth := 8) only [bb]; done)))); intro _)))
  refine loop_go (fun i => {T := tp [(0, vs (l.drop i)), (1, .ptr 0 [] 0)], H := hp [some (setC g)], nx := 1}) (trL g l) ?_ (lt_LF (by omega)) (fun i hi Kn hK => ?_) (fun Kn => ?_)
  · simp only [vv, ff, norm, Array.toList, List.map, Option.isSome_none, bne_self_eq_false, reduceIte, reduceCtorEq, Nat.reduceEqDiff, Nat.reduceAdd, Nat.reduceMul, Nat.reduceSub, Nat.reduceBEq, Nat.reduceLeDiff, Int.reduceEq, Int.reduceLT, Int.reduceLE, Int.reduceGE, Int.reduceGT, Int.reduceBEq, Int.reduceBNe, Int.reduceToNat, Int.reduceNeg, Int.reduceSub, Int.reduceAdd, Int.reduceMul, finish, qf0, resOf, resa, qf1, qf2, qf3, keep, qf4, qf5, qf6, qe9, qf, List.drop_zero]
  · obtain ⟨h1, h2⟩ := takeWhile_lt (fun b : UInt8 => g b.toNat) l i hi
    have hlen : (l.drop i).length = l.length - i := by simp
    have hb : g (bA (l.drop i) 0).toNat = true := by
      rw [bA_get (by omega), List.getElem_drop]; exact h2
    have ht : ((l.drop i).take (l.length - i)).drop 1 = l.drop (i + 1) := by
      rw [List.take_of_length_le (by omega), List.drop_drop]
    (have fz := ga3 hlen hb ht; repeat' (first | simp (maxDischargeDepth := 8) only [go_sem, rr, reduceIte, reduceCtorEq, Nat.reduceEqDiff, Nat.reduceAdd, Nat.reduceMul, Nat.reduceSub, Nat.reduceBEq, Nat.reduceLeDiff, Int.reduceEq, Int.reduceLT, Int.reduceLE, Int.reduceGE, Int.reduceGT, Int.reduceBEq, Int.reduceBNe, Int.reduceToNat, Int.reduceNeg, Int.reduceSub, Int.reduceAdd, Int.reduceMul, fz, setC_own] | (with_reducible refine qg9 ?_ ?_; focus (first | (simp (maxDischargeDepth := 8) only [bb, kk, fz, setC_own]; done) | kernel_rfl)) | ((with_reducible first | refine qf7 ?_ ?_ | refine qf8 ?_ ?_ | refine qf9 ?_ ?_ | refine qg ?_ ?_ | refine qg0 ?_ ?_ | refine qg1 ?_ ?_ | refine qg2 ?_ ?_); focus (first | assumption | omega | (simp only [bz, fz, setC_own]; omega))) | ((with_reducible first | refine qg3 ?_ ?_ | refine qg4 ?_ ?_ | refine qg5 ?_ ?_); focus (first | assumption | omega | (simp only [bz, fz, setC_own]; omega))) | ((with_reducible first | refine g1_u8w ?_ ?_ | refine qg7 ?_ ?_); (focus ((repeat' (with_reducible apply And.intro)) <;> (first | assumption | omega | (simp only [bz, fz, setC_own]; omega) | (simp (maxDischargeDepth := 8) only [bb, fz, setC_own]; done)))); intro _) | (with_reducible apply call_elim; focus ((with_reducible first | apply e103) <;> (first | assumption | omega | (simp only [bz, fz, setC_own]; omega) | (simp (maxDischargeDepth := 8) only [bb, fz, setC_own]; done))))))
    refine hK _ ?_
    simp only [vv, ff, norm, Array.toList, List.map, Option.isSome_none, bne_self_eq_false, reduceIte, reduceCtorEq, Nat.reduceEqDiff, Nat.reduceAdd, Nat.reduceMul, Nat.reduceSub, Nat.reduceBEq, Nat.reduceLeDiff, Int.reduceEq, Int.reduceLT, Int.reduceLE, Int.reduceGE, Int.reduceGT, Int.reduceBEq, Int.reduceBNe, Int.reduceToNat, Int.reduceNeg, Int.reduceSub, Int.reduceAdd, Int.reduceMul, finish, qf0, resOf, resa, qf1, qf2, qf3, keep, qf4, qf5, qf6, qe9, qf, show (l.drop i).drop 1 = l.drop (i + 1) from List.drop_drop]
  · have hlen : (l.drop (trL g l)).length = l.length - trL g l := by simp
    by_cases h0 : l.length - trL g l = 0
    · (repeat' (first | simp (maxDischargeDepth := 8) only [go_sem, rr, reduceIte, reduceCtorEq, Nat.reduceEqDiff, Nat.reduceAdd, Nat.reduceMul, Nat.reduceSub, Nat.reduceBEq, Nat.reduceLeDiff, Int.reduceEq, Int.reduceLT, Int.reduceLE, Int.reduceGE, Int.reduceGT, Int.reduceBEq, Int.reduceBNe, Int.reduceToNat, Int.reduceNeg, Int.reduceSub, Int.reduceAdd, Int.reduceMul, hlen, setC_snap, setC_own] | (with_reducible refine qg9 ?_ ?_; focus (first | (simp (maxDischargeDepth := 8) only [bb, kk, hlen, setC_snap, setC_own]; done) | kernel_rfl)) | ((with_reducible first | refine qf7 ?_ ?_ | refine qf8 ?_ ?_ | refine qf9 ?_ ?_ | refine qg ?_ ?_ | refine qg0 ?_ ?_ | refine qg1 ?_ ?_ | refine qg2 ?_ ?_); focus (first | assumption | omega | (simp only [bz, hlen, setC_snap, setC_own]; omega))) | ((with_reducible first | refine qg3 ?_ ?_ | refine qg4 ?_ ?_ | refine qg5 ?_ ?_); focus (first | assumption | omega | (simp only [bz, hlen, setC_snap, setC_own]; omega))) | ((with_reducible first | refine g1_u8w ?_ ?_ | refine qg7 ?_ ?_); (focus ((repeat' (with_reducible apply And.intro)) <;> (first | assumption | omega | (simp only [bz, hlen, setC_snap, setC_own]; omega) | (simp (maxDischargeDepth := 8) only [bb, hlen, setC_snap, setC_own]; done)))); intro _)))
    · have hb : g (bA (l.drop (trL g l)) 0).toNat = false := by
        have := takeWhile_at (fun b : UInt8 => g b.toNat) l (by show trL g l < _; omega)
        rw [bA_get (by omega), List.getElem_drop]
        exact this
      (have fz := ga2 hlen hb; repeat' (first | simp (maxDischargeDepth := 8) only [go_sem, rr, reduceIte, reduceCtorEq, Nat.reduceEqDiff, Nat.reduceAdd, Nat.reduceMul, Nat.reduceSub, Nat.reduceBEq, Nat.reduceLeDiff, Int.reduceEq, Int.reduceLT, Int.reduceLE, Int.reduceGE, Int.reduceGT, Int.reduceBEq, Int.reduceBNe, Int.reduceToNat, Int.reduceNeg, Int.reduceSub, Int.reduceAdd, Int.reduceMul, fz, setC_snap, setC_own] | (with_reducible refine qg9 ?_ ?_; focus (first | (simp (maxDischargeDepth := 8) only [bb, kk, fz, setC_snap, setC_own]; done) | kernel_rfl)) | ((with_reducible first | refine qf7 ?_ ?_ | refine qf8 ?_ ?_ | refine qf9 ?_ ?_ | refine qg ?_ ?_ | refine qg0 ?_ ?_ | refine qg1 ?_ ?_ | refine qg2 ?_ ?_); focus (first | assumption | omega | (simp only [bz, fz, setC_snap, setC_own]; omega))) | ((with_reducible first | refine qg3 ?_ ?_ | refine qg4 ?_ ?_ | refine qg5 ?_ ?_); focus (first | assumption | omega | (simp only [bz, fz, setC_snap, setC_own]; omega))) | ((with_reducible first | refine g1_u8w ?_ ?_ | refine qg7 ?_ ?_); (focus ((repeat' (with_reducible apply And.intro)) <;> (first | assumption | omega | (simp only [bz, fz, setC_snap, setC_own]; omega) | (simp (maxDischargeDepth := 8) only [bb, fz, setC_snap, setC_own]; done)))); intro _) | (with_reducible apply call_elim; focus ((with_reducible first | apply e103) <;> (first | assumption | omega | (simp only [bz, fz, setC_snap, setC_own]; omega) | (simp (maxDischargeDepth := 8) only [bb, fz, setC_snap, setC_own]; done))))))
/-- the signs of names -/
def signs : List UInt8 := [97, 98, 99, 100, 101, 102, 103, 104, 105, 106, 107, 108, 109, 110, 111, 112, 113, 114, 115, 116, 117, 118, 119, 120, 121, 122, 48, 49, 50, 51, 52, 53, 54, 55, 56, 57, 45]
def setG (l : List UInt8) (c : Nat) : Bool := l.any fun b => decide (c = b.toNat)
theorem setG_succ (l : List UInt8) {i : Nat} (h : i < l.length) : (fun x => decide (x = l[i].toNat) || setG (l.take i) x) = setG (l.take (i + 1)) := by
  funext x
  simp only [setG, List.take_succ_eq_append_getElem h, List.any_append, List.any_cons, List.any_nil, Bool.or_false]
  rw [Bool.or_comm]
theorem e96 (d : Nat) : evFun E (d+1) 96 [vs signs] [] = some (.tup [.agg (setC (setG signs)), vb true], []) := by
  refine evFun_body b96 ?_
  have hsl : signs.length = 37 := rfl
  (repeat' (first | simp (maxDischargeDepth := 8) only [go_sem, rr, reduceIte, reduceCtorEq, Nat.reduceEqDiff, Nat.reduceAdd, Nat.reduceMul, Nat.reduceSub, Nat.reduceBEq, Nat.reduceLeDiff, Int.reduceEq, Int.reduceLT, Int.reduceLE, Int.reduceGE, Int.reduceGT, Int.reduceBEq, Int.reduceBNe, Int.reduceToNat, Int.reduceNeg, Int.reduceSub, Int.reduceAdd, Int.reduceMul, zero256, Tryd.f96] | (with_reducible refine qg9 ?_ ?_; focus (first | (simp (maxDischargeDepth := 8) only [bb, kk, zero256]; done) | kernel_rfl)) | ((with_reducible first | refine qf7 ?_ ?_ | refine qf8 ?_ ?_ | refine qf9 ?_ ?_ | refine qg ?_ ?_ | refine qg0 ?_ ?_ | refine qg1 ?_ ?_ | refine qg2 ?_ ?_); focus (first | assumption | omega | (simp only [bz, zero256]; omega))) | ((with_reducible first | refine qg3 ?_ ?_ | refine qg4 ?_ ?_ | refine qg5 ?_ ?_); focus (first | assumption | omega | (simp only [bz, zero256]; omega))) | ((with_reducible first | refine g1_u8w ?_ ?_ | refine qg7 ?_ ?_); (focus ((repeat' (with_reducible apply And.intro)) <;> (first | assumption | omega | (simp only [bz, zero256]; omega) | (simp (maxDischargeDepth := 8) only [bb, zero256]; done)))); intro _)))
  refine loop_go (fun i => {T := tp [(0, vs signs), (2, .ptr 0 [] 0), (4, vi i)], H := hp [some (setC (setG (signs.take i)))], nx := 1}) 37 ?_ (lt_LF (by omega)) (fun i hi Kn hK => ?_) (fun Kn => ?_)
  · simp only [vv, ff, norm, Array.toList, List.map, Option.isSome_none, bne_self_eq_false, reduceIte, reduceCtorEq, Nat.reduceEqDiff, Nat.reduceAdd, Nat.reduceMul, Nat.reduceSub, Nat.reduceBEq, Nat.reduceLeDiff, Int.reduceEq, Int.reduceLT, Int.reduceLE, Int.reduceGE, Int.reduceGT, Int.reduceBEq, Int.reduceBNe, Int.reduceToNat, Int.reduceNeg, Int.reduceSub, Int.reduceAdd, Int.reduceMul, finish, qf0, resOf, resa, qf1, qf2, qf3, keep, qf4, qf5, qf6, qe9, qf, Int.natCast_zero]
    rfl
  · have hb : (bA signs i).toNat < 128 := by
      have : ∀ b ∈ signs, b.toNat < 128 := by decide
      rw [bA_get (by rw [hsl]; exact hi)]
      exact this _ (List.getElem_mem _)
    have hs := setC_set (setG (signs.take i)) (c := (bA signs i).toNat) (by omega)
    have hs2 : (fun x => decide (x = (bA signs i).toNat) || setG (signs.take i) x) = setG (signs.take (i + 1)) := by
      rw [bA_get (by rw [hsl]; exact hi)]
      exact setG_succ signs (by rw [hsl]; exact hi)
    rw [hs2] at hs
    (have fz := ga2 hsl hs; repeat' (first | simp (maxDischargeDepth := 8) only [go_sem, rr, reduceIte, reduceCtorEq, Nat.reduceEqDiff, Nat.reduceAdd, Nat.reduceMul, Nat.reduceSub, Nat.reduceBEq, Nat.reduceLeDiff, Int.reduceEq, Int.reduceLT, Int.reduceLE, Int.reduceGE, Int.reduceGT, Int.reduceBEq, Int.reduceBNe, Int.reduceToNat, Int.reduceNeg, Int.reduceSub, Int.reduceAdd, Int.reduceMul, fz, setC_own, setC_len] | (with_reducible refine qg9 ?_ ?_; focus (first | (simp (maxDischargeDepth := 8) only [bb, kk, fz, setC_own, setC_len]; done) | kernel_rfl)) | ((with_reducible first | refine qf7 ?_ ?_ | refine qf8 ?_ ?_ | refine qf9 ?_ ?_ | refine qg ?_ ?_ | refine qg0 ?_ ?_ | refine qg1 ?_ ?_ | refine qg2 ?_ ?_); focus (first | assumption | omega | (simp only [bz, fz, setC_own, setC_len]; omega))) | ((with_reducible first | refine qg3 ?_ ?_ | refine qg4 ?_ ?_ | refine qg5 ?_ ?_); focus (first | assumption | omega | (simp only [bz, fz, setC_own, setC_len]; omega))) | ((with_reducible first | refine g1_u8w ?_ ?_ | refine qg7 ?_ ?_); (focus ((repeat' (with_reducible apply And.intro)) <;> (first | assumption | omega | (simp only [bz, fz, setC_own, setC_len]; omega) | (simp (maxDischargeDepth := 8) only [bb, fz, setC_own, setC_len]; done)))); intro _)))
    refine hK _ ?_
    simp only [vv, ff, norm, Array.toList, List.map, Option.isSome_none, bne_self_eq_false, reduceIte, reduceCtorEq, Nat.reduceEqDiff, Nat.reduceAdd, Nat.reduceMul, Nat.reduceSub, Nat.reduceBEq, Nat.reduceLeDiff, Int.reduceEq, Int.reduceLT, Int.reduceLE, Int.reduceGE, Int.reduceGT, Int.reduceBEq, Int.reduceBNe, Int.reduceToNat, Int.reduceNeg, Int.reduceSub, Int.reduceAdd, Int.reduceMul, finish, qf0, resOf, resa, qf1, qf2, qf3, keep, qf4, qf5, qf6, qe9, qf, Int.natCast_add, cst1]
  · have h37 : signs.take 37 = signs := List.take_of_length_le (by rw [hsl]; decide)
    (have fz := ga2 hsl h37; repeat' (first | simp (maxDischargeDepth := 8) only [go_sem, rr, reduceIte, reduceCtorEq, Nat.reduceEqDiff, Nat.reduceAdd, Nat.reduceMul, Nat.reduceSub, Nat.reduceBEq, Nat.reduceLeDiff, Int.reduceEq, Int.reduceLT, Int.reduceLE, Int.reduceGE, Int.reduceGT, Int.reduceBEq, Int.reduceBNe, Int.reduceToNat, Int.reduceNeg, Int.reduceSub, Int.reduceAdd, Int.reduceMul, fz, setC_own, setC_len, setC_getR, setC_load, setC_abs, setC_setAt, setC_snap, setC_keys, setC_ren] | (with_reducible refine qg9 ?_ ?_; focus (first | (simp (maxDischargeDepth := 8) only [bb, kk, fz, setC_own, setC_len, setC_getR, setC_load, setC_abs, setC_setAt, setC_snap, setC_keys, setC_ren]; done) | kernel_rfl)) | ((with_reducible first | refine qf7 ?_ ?_ | refine qf8 ?_ ?_ | refine qf9 ?_ ?_ | refine qg ?_ ?_ | refine qg0 ?_ ?_ | refine qg1 ?_ ?_ | refine qg2 ?_ ?_); focus (first | assumption | omega | (simp only [bz, fz, setC_own, setC_len, setC_getR, setC_load, setC_abs, setC_setAt, setC_snap, setC_keys, setC_ren]; omega))) | ((with_reducible first | refine qg3 ?_ ?_ | refine qg4 ?_ ?_ | refine qg5 ?_ ?_); focus (first | assumption | omega | (simp only [bz, fz, setC_own, setC_len, setC_getR, setC_load, setC_abs, setC_setAt, setC_snap, setC_keys, setC_ren]; omega))) | ((with_reducible first | refine g1_u8w ?_ ?_ | refine qg7 ?_ ?_); (focus ((repeat' (with_reducible apply And.intro)) <;> (first | assumption | omega | (simp only [bz, fz, setC_own, setC_len, setC_getR, setC_load, setC_abs, setC_setAt, setC_snap, setC_keys, setC_ren]; omega) | (simp (maxDischargeDepth := 8) only [bb, fz, setC_own, setC_len, setC_getR, setC_load, setC_abs, setC_setAt, setC_snap, setC_keys, setC_ren]; done)))); intro _)))
def nameCh (b : UInt8) : Bool := setG signs b.toNat
theorem trim_nil (g : Nat → Bool) (l : List UInt8) : (((l.take (l.length - trR g l)).drop (trL g (l.take (l.length - trR g l)))) == []) = l.all fun b => g b.toNat := by
  rw [Bool.eq_iff_iff]
  simp only [beq_iff_eq, List.all_eq_true]
  constructor
  · intro h b hb
    have hle := List.length_drop (i := trL g (l.take (l.length - trR g l))) (l := l.take (l.length - trR g l))
    rw [h] at hle
    have hk : trR g l ≤ l.length := by have := takeWhile_le (fun b : UInt8 => g b.toNat) l.reverse; simpa [trR] using this
    obtain ⟨j, hj, rfl⟩ := List.mem_iff_getElem.mp hb
    simp only [List.length_nil, List.length_take] at hle
    by_cases hj2 : j < l.length - trR g l
    · obtain ⟨h1, h2⟩ := takeWhile_lt (fun b : UInt8 => g b.toNat) (l.take (l.length - trR g l)) j (by show j < trL g _; omega)
      rw [List.getElem_take] at h2; exact h2
    · obtain ⟨h1, h2⟩ := takeWhile_lt (fun b : UInt8 => g b.toNat) l.reverse (l.length - 1 - j) (by show _ < trR g l; omega)
      rw [List.getElem_reverse] at h2
      rw [← h2]; congr 2; congr 1; omega
  · intro h
    have : trR g l = l.length := by
      unfold trR
      rw [takeWhile_all _ l.reverse (fun b hb => h b (List.mem_reverse.mp hb)), List.length_reverse]
    rw [this]; simp
theorem e91 (d : Nat) (l : List UInt8) (hl : l.length ≤ 549755813888) : evFun E (d+3) 91 [vs l, vs signs] [] = some (vs ((l.take (l.length - trR (setG signs) l)).drop (trL (setG signs) (l.take (l.length - trR (setG signs) l)))), []) := by
  refine evFun_body b91 ?_
  have hsl : signs.length = 37 := rfl
  have hs0 : (signs == []) = false := rfl
  by_cases h0 : l = []
  · subst h0
    (repeat' (first | simp (maxDischargeDepth := 8) only [go_sem, rr, reduceIte, reduceCtorEq, Nat.reduceEqDiff, Nat.reduceAdd, Nat.reduceMul, Nat.reduceSub, Nat.reduceBEq, Nat.reduceLeDiff, Int.reduceEq, Int.reduceLT, Int.reduceLE, Int.reduceGE, Int.reduceGT, Int.reduceBEq, Int.reduceBNe, Int.reduceToNat, Int.reduceNeg, Int.reduceSub, Int.reduceAdd, Int.reduceMul, hs0, Tryd.f91] | (with_reducible refine qg9 ?_ ?_; focus (first | (simp (maxDischargeDepth := 8) only [bb, kk, hs0]; done) | kernel_rfl)) | ((with_reducible first | refine qf7 ?_ ?_ | refine qf8 ?_ ?_ | refine qf9 ?_ ?_ | refine qg ?_ ?_ | refine qg0 ?_ ?_ | refine qg1 ?_ ?_ | refine qg2 ?_ ?_); focus (first | assumption | omega | (simp only [bz, hs0]; omega))) | ((with_reducible first | refine qg3 ?_ ?_ | refine qg4 ?_ ?_ | refine qg5 ?_ ?_); focus (first | assumption | omega | (simp only [bz, hs0]; omega))) | ((with_reducible first | refine g1_u8w ?_ ?_ | refine qg7 ?_ ?_); (focus ((repeat' (with_reducible apply And.intro)) <;> (first | assumption | omega | (simp only [bz, hs0]; omega) | (simp (maxDischargeDepth := 8) only [bb, hs0]; done)))); intro _)))
  · have h0' : (l == []) = false := beq_false_of_ne h0
    have hl2 : (l.take (l.length - trR (setG signs) l)).length ≤ 549755813888 := by rw [List.length_take]; omega
    (have fz := ga3 h0' hs0 hsl; repeat' (first | simp (maxDischargeDepth := 8) only [go_sem, rr, reduceIte, reduceCtorEq, Nat.reduceEqDiff, Nat.reduceAdd, Nat.reduceMul, Nat.reduceSub, Nat.reduceBEq, Nat.reduceLeDiff, Int.reduceEq, Int.reduceLT, Int.reduceLE, Int.reduceGE, Int.reduceGT, Int.reduceBEq, Int.reduceBNe, Int.reduceToNat, Int.reduceNeg, Int.reduceSub, Int.reduceAdd, Int.reduceMul, fz, zero256, e96, setC_own, setC_len, setC_getR, setC_load, setC_abs, setC_setAt, setC_snap, setC_ren, Tryd.f91] | (with_reducible refine qg9 ?_ ?_; focus (first | (simp (maxDischargeDepth := 8) only [bb, kk, fz, zero256, e96, setC_own, setC_len, setC_getR, setC_load, setC_abs, setC_setAt, setC_snap, setC_ren]; done) | kernel_rfl)) | ((with_reducible first | refine qf7 ?_ ?_ | refine qf8 ?_ ?_ | refine qf9 ?_ ?_ | refine qg ?_ ?_ | refine qg0 ?_ ?_ | refine qg1 ?_ ?_ | refine qg2 ?_ ?_); focus (first | assumption | omega | (simp only [bz, fz, zero256, e96, setC_own, setC_len, setC_getR, setC_load, setC_abs, setC_setAt, setC_snap, setC_ren]; omega))) | ((with_reducible first | refine qg3 ?_ ?_ | refine qg4 ?_ ?_ | refine qg5 ?_ ?_); focus (first | assumption | omega | (simp only [bz, fz, zero256, e96, setC_own, setC_len, setC_getR, setC_load, setC_abs, setC_setAt, setC_snap, setC_ren]; omega))) | ((with_reducible first | refine g1_u8w ?_ ?_ | refine qg7 ?_ ?_); (focus ((repeat' (with_reducible apply And.intro)) <;> (first | assumption | omega | (simp only [bz, fz, zero256, e96, setC_own, setC_len, setC_getR, setC_load, setC_abs, setC_setAt, setC_snap, setC_ren]; omega) | (simp (maxDischargeDepth := 8) only [bb, fz, zero256, e96, setC_own, setC_len, setC_getR, setC_load, setC_abs, setC_setAt, setC_snap, setC_ren]; done)))); intro _) | (with_reducible apply call_elim; focus ((with_reducible first | apply e98 | apply e97) <;> (first | assumption | omega | (simp only [bz, fz, zero256, e96, setC_own, setC_len, setC_getR, setC_load, setC_abs, setC_setAt, setC_snap, setC_ren]; omega) | (simp (maxDischargeDepth := 8) only [bb, fz, zero256, e96, setC_own, setC_len, setC_getR, setC_load, setC_abs, setC_setAt, setC_snap, setC_ren]; done))))))
    done
end Go.Proofs.YtgdldmfkgijkaaaDoor.VH.S
end

section
namespace Go.Proofs.YtgdldmfkgijkaaaDoor.VH.S
open Go.Proofs
set_option maxRecDepth 100000
set_option maxHeartbeats 8000000
set_option linter.unusedSimpArgs false

def nameOK (l : List UInt8) : Bool := decide (1 ≤ l.length) && decide (l.length ≤ 8) && l.all nameCh
theorem signs_eq : sB [97, 98, 99, 100, 101, 102, 103, 104, 105, 106, 107, 108, 109, 110, 111, 112, 113, 114, 115, 116, 117, 118, 119, 120, 121, 122, 48, 49, 50, 51, 52, 53, 54, 55, 56, 57, 45] = sB signs := rfl
theorem nameCh_nat : ∀ n, n < 256 → setG signs n = (decide (97 ≤ n ∧ n ≤ 122) || decide (48 ≤ n ∧ n ≤ 57) || decide (n = 45)) := by decide +kernel
theorem nameCh_iff (b : UInt8) : nameCh b = true ↔ (97 ≤ b.toNat ∧ b.toNat ≤ 122) ∨ (48 ≤ b.toNat ∧ b.toNat ≤ 57) ∨ b.toNat = 45 := by
  rw [nameCh, nameCh_nat _ (UInt8.toNat_lt b)]
  simp only [Bool.or_eq_true, decide_eq_true_eq, or_assoc]
theorem e79 (d : Nat) (l : List UInt8) (hl : l.length ≤ 549755813888) : evFun E (d+4) 79 [vs l] [] = some (vb (nameOK l), []) := by
  refine evFun_body b79 ?_
  have ht := trim_nil (setG signs) l
  have hall : (l.all fun b => setG signs b.toNat) = l.all nameCh := rfl
  by_cases h1 : 1 ≤ l.length ∧ l.length ≤ 8
  · have hr : nameOK l = l.all nameCh := by simp [nameOK, h1.1, h1.2]
    (have fz := ga3 ht hall hr; repeat' (first | simp (maxDischargeDepth := 8) only [go_sem, rr, reduceIte, reduceCtorEq, Nat.reduceEqDiff, Nat.reduceAdd, Nat.reduceMul, Nat.reduceSub, Nat.reduceBEq, Nat.reduceLeDiff, Int.reduceEq, Int.reduceLT, Int.reduceLE, Int.reduceGE, Int.reduceGT, Int.reduceBEq, Int.reduceBNe, Int.reduceToNat, Int.reduceNeg, Int.reduceSub, Int.reduceAdd, Int.reduceMul, fz, signs_eq, Tryd.f79] | (with_reducible refine qg9 ?_ ?_; focus (first | (simp (maxDischargeDepth := 8) only [bb, kk, fz, signs_eq]; done) | kernel_rfl)) | ((with_reducible first | refine qf7 ?_ ?_ | refine qf8 ?_ ?_ | refine qf9 ?_ ?_ | refine qg ?_ ?_ | refine qg0 ?_ ?_ | refine qg1 ?_ ?_ | refine qg2 ?_ ?_); focus (first | assumption | omega | (simp only [bz, fz, signs_eq]; omega))) | ((with_reducible first | refine qg3 ?_ ?_ | refine qg4 ?_ ?_ | refine qg5 ?_ ?_); focus (first | assumption | omega | (simp only [bz, fz, signs_eq]; omega))) | ((with_reducible first | refine g1_u8w ?_ ?_ | refine qg7 ?_ ?_); (focus ((repeat' (with_reducible apply And.intro)) <;> (first | assumption | omega | (simp only [bz, fz, signs_eq]; omega) | (simp (maxDischargeDepth := 8) only [bb, fz, signs_eq]; done)))); intro _) | (with_reducible apply call_elim; focus ((with_reducible first | apply e40 | apply e91) <;> (first | assumption | omega | (simp only [bz, fz, signs_eq]; omega) | (simp (maxDischargeDepth := 8) only [bb, fz, signs_eq]; done))))))
  · have hr : nameOK l = false := by
      simp only [nameOK, Bool.and_eq_false_iff, decide_eq_false_iff_not]
      left; omega
    (repeat' (first | simp (maxDischargeDepth := 8) only [go_sem, rr, reduceIte, reduceCtorEq, Nat.reduceEqDiff, Nat.reduceAdd, Nat.reduceMul, Nat.reduceSub, Nat.reduceBEq, Nat.reduceLeDiff, Int.reduceEq, Int.reduceLT, Int.reduceLE, Int.reduceGE, Int.reduceGT, Int.reduceBEq, Int.reduceBNe, Int.reduceToNat, Int.reduceNeg, Int.reduceSub, Int.reduceAdd, Int.reduceMul, signs_eq, hr, Tryd.f79] | (with_reducible refine qg9 ?_ ?_; focus (first | (simp (maxDischargeDepth := 8) only [bb, kk, signs_eq, hr]; done) | kernel_rfl)) | ((with_reducible first | refine qf7 ?_ ?_ | refine qf8 ?_ ?_ | refine qf9 ?_ ?_ | refine qg ?_ ?_ | refine qg0 ?_ ?_ | refine qg1 ?_ ?_ | refine qg2 ?_ ?_); focus (first | assumption | omega | (simp only [bz, signs_eq, hr]; omega))) | ((with_reducible first | refine qg3 ?_ ?_ | refine qg4 ?_ ?_ | refine qg5 ?_ ?_); focus (first | assumption | omega | (simp only [bz, signs_eq, hr]; omega))) | ((with_reducible first | refine g1_u8w ?_ ?_ | refine qg7 ?_ ?_); (focus ((repeat' (with_reducible apply And.intro)) <;> (first | assumption | omega | (simp only [bz, signs_eq, hr]; omega) | (simp (maxDischargeDepth := 8) only [bb, signs_eq, hr]; done)))); intro _) | (with_reducible apply call_elim; focus ((with_reducible first | apply e40) <;> (first | assumption | omega | (simp only [bz, signs_eq, hr]; omega) | (simp (maxDischargeDepth := 8) only [bb, signs_eq, hr]; done))))))
    done
theorem e41 (d : Nat) (l : List UInt8) (hl : l.length ≤ 549755813888) : evFun E (d+5) 41 [vs l] [] = some (vb (l == [] || nameOK l), []) := by
  refine evFun_body b41 ?_
  cases h : (l == []) with
  | true => (repeat' (first | simp (maxDischargeDepth := 8) only [go_sem, rr, reduceIte, reduceCtorEq, Nat.reduceEqDiff, Nat.reduceAdd, Nat.reduceMul, Nat.reduceSub, Nat.reduceBEq, Nat.reduceLeDiff, Int.reduceEq, Int.reduceLT, Int.reduceLE, Int.reduceGE, Int.reduceGT, Int.reduceBEq, Int.reduceBNe, Int.reduceToNat, Int.reduceNeg, Int.reduceSub, Int.reduceAdd, Int.reduceMul, h, Tryd.f41] | (with_reducible refine qg9 ?_ ?_; focus (first | (simp (maxDischargeDepth := 8) only [bb, kk, h]; done) | kernel_rfl)) | ((with_reducible first | refine qf7 ?_ ?_ | refine qf8 ?_ ?_ | refine qf9 ?_ ?_ | refine qg ?_ ?_ | refine qg0 ?_ ?_ | refine qg1 ?_ ?_ | refine qg2 ?_ ?_); focus (first | assumption | omega | (simp only [bz, h]; omega))) | ((with_reducible first | refine qg3 ?_ ?_ | refine qg4 ?_ ?_ | refine qg5 ?_ ?_); focus (first | assumption | omega | (simp only [bz, h]; omega))) | ((with_reducible first | refine g1_u8w ?_ ?_ | refine qg7 ?_ ?_); (focus ((repeat' (with_reducible apply And.intro)) <;> (first | assumption | omega | (simp only [bz, h]; omega) | (simp (maxDischargeDepth := 8) only [bb, h]; done)))); intro _)))
  | false => (repeat' (first | simp (maxDischargeDepth := 8) only [go_sem, rr, reduceIte, reduceCtorEq, Nat.reduceEqDiff, Nat.reduceAdd, Nat.reduceMul, Nat.reduceSub, Nat.reduceBEq, Nat.reduceLeDiff, Int.reduceEq, Int.reduceLT, Int.reduceLE, Int.reduceGE, Int.reduceGT, Int.reduceBEq, Int.reduceBNe, Int.reduceToNat, Int.reduceNeg, Int.reduceSub, Int.reduceAdd, Int.reduceMul, h, Tryd.f41] | (with_reducible refine qg9 ?_ ?_; focus (first | (simp (maxDischargeDepth := 8) only [bb, kk, h]; done) | kernel_rfl)) | ((with_reducible first | refine qf7 ?_ ?_ | refine qf8 ?_ ?_ | refine qf9 ?_ ?_ | refine qg ?_ ?_ | refine qg0 ?_ ?_ | refine qg1 ?_ ?_ | refine qg2 ?_ ?_); focus (first | assumption | omega | (simp only [bz, h]; omega))) | ((with_reducible first | refine qg3 ?_ ?_ | refine qg4 ?_ ?_ | refine qg5 ?_ ?_); focus (first | assumption | omega | (simp only [bz, h]; omega))) | ((with_reducible first | refine g1_u8w ?_ ?_ | refine qg7 ?_ ?_); (focus ((repeat' (with_reducible apply And.intro)) <;> (first | assumption | omega | (simp only [bz, h]; omega) | (simp (maxDischargeDepth := 8) only [bb, h]; done)))); intro _) | (with_reducible apply call_elim; focus ((with_reducible first | apply e79) <;> (first | assumption | omega | (simp only [bz, h]; omega) | (simp (maxDischargeDepth := 8) only [bb, h]; done))))))
theorem e38 (d : Nat) (l : List UInt8) (hl : l.length ≤ 549755813888) : evFun E (d+2) 38 [vs l] [] = some (vb (nameOK l), []) := by
  refine evFun_body b38 ?_
  (repeat' (first | simp (maxDischargeDepth := 8) only [go_sem, rr, reduceIte, reduceCtorEq, Nat.reduceEqDiff, Nat.reduceAdd, Nat.reduceMul, Nat.reduceSub, Nat.reduceBEq, Nat.reduceLeDiff, Int.reduceEq, Int.reduceLT, Int.reduceLE, Int.reduceGE, Int.reduceGT, Int.reduceBEq, Int.reduceBNe, Int.reduceToNat, Int.reduceNeg, Int.reduceSub, Int.reduceAdd, Int.reduceMul, Tryd.f38] | (with_reducible refine qg9 ?_ ?_; focus (first | (simp (maxDischargeDepth := 8) only [bb, kk]; done) | kernel_rfl)) | ((with_reducible first | refine qf7 ?_ ?_ | refine qf8 ?_ ?_ | refine qf9 ?_ ?_ | refine qg ?_ ?_ | refine qg0 ?_ ?_ | refine qg1 ?_ ?_ | refine qg2 ?_ ?_); focus (first | assumption | omega | (simp only [bz]; omega))) | ((with_reducible first | refine qg3 ?_ ?_ | refine qg4 ?_ ?_ | refine qg5 ?_ ?_); focus (first | assumption | omega | (simp only [bz]; omega))) | ((with_reducible first | refine g1_u8w ?_ ?_ | refine qg7 ?_ ?_); (focus ((repeat' (with_reducible apply And.intro)) <;> (first | assumption | omega | (simp only [bz]; omega) | (simp (maxDischargeDepth := 8) only [bb]; done)))); intro _)))
  refine loop_inv (fun i => ∀ j (h : j < l.length), j < i → nameCh l[j] = true) (fun i => {T := tp [(0, vs l), (3, vi i)], H := hp [], nx := 0}) l.length ?_ (fun j _ h => by omega) (lt_LF (by omega)) (fun i hi hI Kn hK => ?_) (fun hI Kn => ?_)
  · simp only [vv, ff, norm, Array.toList, List.map, Option.isSome_none, bne_self_eq_false, reduceIte, reduceCtorEq, Nat.reduceEqDiff, Nat.reduceAdd, Nat.reduceMul, Nat.reduceSub, Nat.reduceBEq, Nat.reduceLeDiff, Int.reduceEq, Int.reduceLT, Int.reduceLE, Int.reduceGE, Int.reduceGT, Int.reduceBEq, Int.reduceBNe, Int.reduceToNat, Int.reduceNeg, Int.reduceSub, Int.reduceAdd, Int.reduceMul, finish, qf0, resOf, resa, qf1, qf2, qf3, keep, qf4, qf5, qf6, qe9, qf, Int.natCast_zero]
  · by_cases hc : nameCh (bA l i) = true
    · have hc' := (nameCh_iff _).mp hc
      have next : ∀ j (h : j < l.length), j < i + 1 → nameCh l[j] = true := fun j h hj => by
        by_cases e : j = i
        · subst e; rw [← bA_get h]; exact hc
        · exact hI j h (by omega)
      rcases hc' with hc' | hc' | hc'
      · (repeat' (first | simp (maxDischargeDepth := 8) only [go_sem, rr, reduceIte, reduceCtorEq, Nat.reduceEqDiff, Nat.reduceAdd, Nat.reduceMul, Nat.reduceSub, Nat.reduceBEq, Nat.reduceLeDiff, Int.reduceEq, Int.reduceLT, Int.reduceLE, Int.reduceGE, Int.reduceGT, Int.reduceBEq, Int.reduceBNe, Int.reduceToNat, Int.reduceNeg, Int.reduceSub, Int.reduceAdd, Int.reduceMul] | (with_reducible refine qg9 ?_ ?_; focus (first | (simp (maxDischargeDepth := 8) only [bb, kk]; done) | kernel_rfl)) | ((with_reducible first | refine qf7 ?_ ?_ | refine qf8 ?_ ?_ | refine qf9 ?_ ?_ | refine qg ?_ ?_ | refine qg0 ?_ ?_ | refine qg1 ?_ ?_ | refine qg2 ?_ ?_); focus (first | assumption | omega | (simp only [bz]; omega))) | ((with_reducible first | refine qg3 ?_ ?_ | refine qg4 ?_ ?_ | refine qg5 ?_ ?_); focus (first | assumption | omega | (simp only [bz]; omega))) | ((with_reducible first | refine g1_u8w ?_ ?_ | refine qg7 ?_ ?_); (focus ((repeat' (with_reducible apply And.intro)) <;> (first | assumption | omega | (simp only [bz]; omega) | (simp (maxDischargeDepth := 8) only [bb]; done)))); intro _) | (with_reducible apply call_elim; focus ((with_reducible first | apply e39) <;> (first | assumption | omega | (simp only [bz]; omega) | (simp (maxDischargeDepth := 8) only [bb]; done))))))
        refine hK next _ ?_
        simp only [vv, ff, norm, Array.toList, List.map, Option.isSome_none, bne_self_eq_false, reduceIte, reduceCtorEq, Nat.reduceEqDiff, Nat.reduceAdd, Nat.reduceMul, Nat.reduceSub, Nat.reduceBEq, Nat.reduceLeDiff, Int.reduceEq, Int.reduceLT, Int.reduceLE, Int.reduceGE, Int.reduceGT, Int.reduceBEq, Int.reduceBNe, Int.reduceToNat, Int.reduceNeg, Int.reduceSub, Int.reduceAdd, Int.reduceMul, finish, qf0, resOf, resa, qf1, qf2, qf3, keep, qf4, qf5, qf6, qe9, qf, Int.natCast_add, cst1]
      · (repeat' (first | simp (maxDischargeDepth := 8) only [go_sem, rr, reduceIte, reduceCtorEq, Nat.reduceEqDiff, Nat.reduceAdd, Nat.reduceMul, Nat.reduceSub, Nat.reduceBEq, Nat.reduceLeDiff, Int.reduceEq, Int.reduceLT, Int.reduceLE, Int.reduceGE, Int.reduceGT, Int.reduceBEq, Int.reduceBNe, Int.reduceToNat, Int.reduceNeg, Int.reduceSub, Int.reduceAdd, Int.reduceMul] | (with_reducible refine qg9 ?_ ?_; focus (first | (simp (maxDischargeDepth := 8) only [bb, kk]; done) | kernel_rfl)) | ((with_reducible first | refine qf7 ?_ ?_ | refine qf8 ?_ ?_ | refine qf9 ?_ ?_ | refine qg ?_ ?_ | refine qg0 ?_ ?_ | refine qg1 ?_ ?_ | refine qg2 ?_ ?_); focus (first | assumption | omega | (simp only [bz]; omega))) | ((with_reducible first | refine qg3 ?_ ?_ | refine qg4 ?_ ?_ | refine qg5 ?_ ?_); focus (first | assumption | omega | (simp only [bz]; omega))) | ((with_reducible first | refine g1_u8w ?_ ?_ | refine qg7 ?_ ?_); (focus ((repeat' (with_reducible apply And.intro)) <;> (first | assumption | omega | (simp only [bz]; omega) | (simp (maxDischargeDepth := 8) only [bb]; done)))); intro _) | (with_reducible apply call_elim; focus ((with_reducible first | apply e39) <;> (first | assumption | omega | (simp only [bz]; omega) | (simp (maxDischargeDepth := 8) only [bb]; done))))))
        refine hK next _ ?_
        simp only [vv, ff, norm, Array.toList, List.map, Option.isSome_none, bne_self_eq_false, reduceIte, reduceCtorEq, Nat.reduceEqDiff, Nat.reduceAdd, Nat.reduceMul, Nat.reduceSub, Nat.reduceBEq, Nat.reduceLeDiff, Int.reduceEq, Int.reduceLT, Int.reduceLE, Int.reduceGE, Int.reduceGT, Int.reduceBEq, Int.reduceBNe, Int.reduceToNat, Int.reduceNeg, Int.reduceSub, Int.reduceAdd, Int.reduceMul, finish, qf0, resOf, resa, qf1, qf2, qf3, keep, qf4, qf5, qf6, qe9, qf, Int.natCast_add, cst1]
      · (repeat' (first | simp (maxDischargeDepth := 8) only [go_sem, rr, reduceIte, reduceCtorEq, Nat.reduceEqDiff, Nat.reduceAdd, Nat.reduceMul, Nat.reduceSub, Nat.reduceBEq, Nat.reduceLeDiff, Int.reduceEq, Int.reduceLT, Int.reduceLE, Int.reduceGE, Int.reduceGT, Int.reduceBEq, Int.reduceBNe, Int.reduceToNat, Int.reduceNeg, Int.reduceSub, Int.reduceAdd, Int.reduceMul] | (with_reducible refine qg9 ?_ ?_; focus (first | (simp (maxDischargeDepth := 8) only [bb, kk]; done) | kernel_rfl)) | ((with_reducible first | refine qf7 ?_ ?_ | refine qf8 ?_ ?_ | refine qf9 ?_ ?_ | refine qg ?_ ?_ | refine qg0 ?_ ?_ | refine qg1 ?_ ?_ | refine qg2 ?_ ?_); focus (first | assumption | omega | (simp only [bz]; omega))) | ((with_reducible first | refine qg3 ?_ ?_ | refine qg4 ?_ ?_ | refine qg5 ?_ ?_); focus (first | assumption | omega | (simp only [bz]; omega))) | ((with_reducible first | refine g1_u8w ?_ ?_ | refine qg7 ?_ ?_); (focus ((repeat' (with_reducible apply And.intro)) <;> (first | assumption | omega | (simp only [bz]; omega) | (simp (maxDischargeDepth := 8) only [bb]; done)))); intro _) | (with_reducible apply call_elim; focus ((with_reducible first | apply e39) <;> (first | assumption | omega | (simp only [bz]; omega) | (simp (maxDischargeDepth := 8) only [bb]; done))))))
        refine hK next _ ?_
        simp only [vv, ff, norm, Array.toList, List.map, Option.isSome_none, bne_self_eq_false, reduceIte, reduceCtorEq, Nat.reduceEqDiff, Nat.reduceAdd, Nat.reduceMul, Nat.reduceSub, Nat.reduceBEq, Nat.reduceLeDiff, Int.reduceEq, Int.reduceLT, Int.reduceLE, Int.reduceGE, Int.reduceGT, Int.reduceBEq, Int.reduceBNe, Int.reduceToNat, Int.reduceNeg, Int.reduceSub, Int.reduceAdd, Int.reduceMul, finish, qf0, resOf, resa, qf1, qf2, qf3, keep, qf4, qf5, qf6, qe9, qf, Int.natCast_add, cst1]
    · have hc' := mt (nameCh_iff _).mpr hc
      have hr : nameOK l = false := by
        simp only [nameOK, Bool.and_eq_false_iff, List.all_eq_false]
        exact .inr ⟨l[i], List.getElem_mem _, by rw [← bA_get hi]; exact hc⟩
      have hc1 : ¬ (97 ≤ (bA l i).toNat ∧ (bA l i).toNat ≤ 122) := fun h => hc' (.inl h)
      have hc2 : ¬ (48 ≤ (bA l i).toNat ∧ (bA l i).toNat ≤ 57) := fun h => hc' (.inr (.inl h))
      have hc3 : ¬ (bA l i).toNat = 45 := fun h => hc' (.inr (.inr h))
      (repeat' (first | simp (maxDischargeDepth := 8) only [go_sem, rr, reduceIte, reduceCtorEq, Nat.reduceEqDiff, Nat.reduceAdd, Nat.reduceMul, Nat.reduceSub, Nat.reduceBEq, Nat.reduceLeDiff, Int.reduceEq, Int.reduceLT, Int.reduceLE, Int.reduceGE, Int.reduceGT, Int.reduceBEq, Int.reduceBNe, Int.reduceToNat, Int.reduceNeg, Int.reduceSub, Int.reduceAdd, Int.reduceMul, hr] | (with_reducible refine qg9 ?_ ?_; focus (first | (simp (maxDischargeDepth := 8) only [bb, kk, hr]; done) | kernel_rfl)) | ((with_reducible first | refine qf7 ?_ ?_ | refine qf8 ?_ ?_ | refine qf9 ?_ ?_ | refine qg ?_ ?_ | refine qg0 ?_ ?_ | refine qg1 ?_ ?_ | refine qg2 ?_ ?_); focus (first | assumption | omega | (simp only [bz, hr]; omega))) | ((with_reducible first | refine qg3 ?_ ?_ | refine qg4 ?_ ?_ | refine qg5 ?_ ?_); focus (first | assumption | omega | (simp only [bz, hr]; omega))) | ((with_reducible first | refine g1_u8w ?_ ?_ | refine qg7 ?_ ?_); (focus ((repeat' (with_reducible apply And.intro)) <;> (first | assumption | omega | (simp only [bz, hr]; omega) | (simp (maxDischargeDepth := 8) only [bb, hr]; done)))); intro _) | (with_reducible apply call_elim; focus ((with_reducible first | apply e39) <;> (first | assumption | omega | (simp only [bz, hr]; omega) | (simp (maxDischargeDepth := 8) only [bb, hr]; done))))))
  · have hr : nameOK l = (decide (1 ≤ l.length) && decide (l.length ≤ 8)) := by
      have : l.all nameCh = true := List.all_eq_true.mpr fun b hb => by
        obtain ⟨j, hj, rfl⟩ := List.mem_iff_getElem.mp hb
        exact hI j hj hj
      simp [nameOK, this]
    have hr2 : (decide ((l.length : Int) ≥ 1) && decide ((l.length : Int) ≤ 8)) = nameOK l := by
      rw [hr, Bool.eq_iff_iff]; simp; omega
    (repeat' (first | simp (maxDischargeDepth := 8) only [go_sem, rr, reduceIte, reduceCtorEq, Nat.reduceEqDiff, Nat.reduceAdd, Nat.reduceMul, Nat.reduceSub, Nat.reduceBEq, Nat.reduceLeDiff, Int.reduceEq, Int.reduceLT, Int.reduceLE, Int.reduceGE, Int.reduceGT, Int.reduceBEq, Int.reduceBNe, Int.reduceToNat, Int.reduceNeg, Int.reduceSub, Int.reduceAdd, Int.reduceMul, hr2] | (with_reducible refine qg9 ?_ ?_; focus (first | (simp (maxDischargeDepth := 8) only [bb, kk, hr2]; done) | kernel_rfl)) | ((with_reducible first | refine qf7 ?_ ?_ | refine qf8 ?_ ?_ | refine qf9 ?_ ?_ | refine qg ?_ ?_ | refine qg0 ?_ ?_ | refine qg1 ?_ ?_ | refine qg2 ?_ ?_); focus (first | assumption | omega | (simp only [bz, hr2]; omega))) | ((with_reducible first | refine qg3 ?_ ?_ | refine qg4 ?_ ?_ | refine qg5 ?_ ?_); focus (first | assumption | omega | (simp only [bz, hr2]; omega))) | ((with_reducible first | refine g1_u8w ?_ ?_ | refine qg7 ?_ ?_); (focus ((repeat' (with_reducible apply And.intro)) <;> (first | assumption | omega | (simp only [bz, hr2]; omega) | (simp (maxDischargeDepth := 8) only [bb, hr2]; done)))); intro _) | (with_reducible apply call_elim; focus ((with_reducible first | apply e39) <;> (first | assumption | omega | (simp only [bz, hr2]; omega) | (simp (maxDischargeDepth := 8) only [bb, hr2]; done))))))
end Go.Proofs.YtgdldmfkgijkaaaDoor.VH.S
end

section
namespace Go.Proofs.YtgdldmfkgijkaaaDoor.VH.S
open Go.Proofs
set_option maxRecDepth 100000
set_option maxHeartbeats 8000000
set_option linter.unusedSimpArgs false

def askOk (k : Int) (nm : List UInt8) (v : Int) (n : Nat) : Bool := (decide (1 ≤ k) && decide (k ≤ 4)) && (nm == [] || nameOK nm) && (decide (0 ≤ v) && decide (v ≤ 1000000)) && (if k = 1 then decide (1 ≤ n) && decide (n ≤ 540) else decide (n = 0))
theorem e11 (d : Nat) (k v : Int) (nm : List UInt8) (n : Nat) (c : Option Nat) (cs : List AV) (hl : nm.length ≤ 549755813888) : evFun E (d+6) 11 [.agg [vi k, vs nm, vi v, .sl .snap 1 n c cs]] [] = some (vb (askOk k nm v n), []) := by
  refine evFun_body b11 ?_
  by_cases k1 : k = 1
  · subst k1
    have e1 : (decide ((n : Int) ≥ 1) && decide ((n : Int) ≤ 540)) = (decide (1 ≤ n) && decide (n ≤ 540)) := by rw [Bool.eq_iff_iff]; simp; omega
    cases hn : (nm == [] || nameOK nm) with
    | false =>
      have hr : askOk 1 nm v n = false := by unfold askOk; rw [hn]; simp []
      (have fz := ga2 hr hn; repeat' (first | simp (maxDischargeDepth := 8) only [go_sem, rr, reduceIte, reduceCtorEq, Nat.reduceEqDiff, Nat.reduceAdd, Nat.reduceMul, Nat.reduceSub, Nat.reduceBEq, Nat.reduceLeDiff, Int.reduceEq, Int.reduceLT, Int.reduceLE, Int.reduceGE, Int.reduceGT, Int.reduceBEq, Int.reduceBNe, Int.reduceToNat, Int.reduceNeg, Int.reduceSub, Int.reduceAdd, Int.reduceMul, fz, Tryd.f11] | (with_reducible refine qg9 ?_ ?_; focus (first | (simp (maxDischargeDepth := 8) only [bb, kk, fz]; done) | kernel_rfl)) | ((with_reducible first | refine qf7 ?_ ?_ | refine qf8 ?_ ?_ | refine qf9 ?_ ?_ | refine qg ?_ ?_ | refine qg0 ?_ ?_ | refine qg1 ?_ ?_ | refine qg2 ?_ ?_); focus (first | assumption | omega | (simp only [bz, fz]; omega))) | ((with_reducible first | refine qg3 ?_ ?_ | refine qg4 ?_ ?_ | refine qg5 ?_ ?_); focus (first | assumption | omega | (simp only [bz, fz]; omega))) | ((with_reducible first | refine g1_u8w ?_ ?_ | refine qg7 ?_ ?_); (focus ((repeat' (with_reducible apply And.intro)) <;> (first | assumption | omega | (simp only [bz, fz]; omega) | (simp (maxDischargeDepth := 8) only [bb, fz]; done)))); intro _) | ((with_reducible refine g1_64w ?_ ?_); (focus ((repeat' (with_reducible apply And.intro)) <;> (first | assumption | omega | (simp only [bz, fz]; omega) | (simp (maxDischargeDepth := 8) only [bb, fz]; done)))); intro _) | (with_reducible apply call_elim; focus ((with_reducible first | apply e40 | apply e41) <;> (first | assumption | omega | (simp only [bz, fz]; omega) | (simp (maxDischargeDepth := 8) only [bb, fz]; done))))))
    | true =>
      by_cases hv : 0 ≤ v ∧ v ≤ 1000000
      · have hr : askOk 1 nm v n = (decide (1 ≤ n) && decide (n ≤ 540)) := by unfold askOk; rw [hn]; simp [hv]
        (have fz := ga3 hr hn e1; repeat' (first | simp (maxDischargeDepth := 8) only [go_sem, rr, reduceIte, reduceCtorEq, Nat.reduceEqDiff, Nat.reduceAdd, Nat.reduceMul, Nat.reduceSub, Nat.reduceBEq, Nat.reduceLeDiff, Int.reduceEq, Int.reduceLT, Int.reduceLE, Int.reduceGE, Int.reduceGT, Int.reduceBEq, Int.reduceBNe, Int.reduceToNat, Int.reduceNeg, Int.reduceSub, Int.reduceAdd, Int.reduceMul, fz, Tryd.f11] | (with_reducible refine qg9 ?_ ?_; focus (first | (simp (maxDischargeDepth := 8) only [bb, kk, fz]; done) | kernel_rfl)) | ((with_reducible first | refine qf7 ?_ ?_ | refine qf8 ?_ ?_ | refine qf9 ?_ ?_ | refine qg ?_ ?_ | refine qg0 ?_ ?_ | refine qg1 ?_ ?_ | refine qg2 ?_ ?_); focus (first | assumption | omega | (simp only [bz, fz]; omega))) | ((with_reducible first | refine qg3 ?_ ?_ | refine qg4 ?_ ?_ | refine qg5 ?_ ?_); focus (first | assumption | omega | (simp only [bz, fz]; omega))) | ((with_reducible first | refine g1_u8w ?_ ?_ | refine qg7 ?_ ?_); (focus ((repeat' (with_reducible apply And.intro)) <;> (first | assumption | omega | (simp only [bz, fz]; omega) | (simp (maxDischargeDepth := 8) only [bb, fz]; done)))); intro _) | ((with_reducible refine g1_64w ?_ ?_); (focus ((repeat' (with_reducible apply And.intro)) <;> (first | assumption | omega | (simp only [bz, fz]; omega) | (simp (maxDischargeDepth := 8) only [bb, fz]; done)))); intro _) | (with_reducible apply call_elim; focus ((with_reducible first | apply e40 | apply e41 | apply e42) <;> (first | assumption | omega | (simp only [bz, fz]; omega) | (simp (maxDischargeDepth := 8) only [bb, fz]; done))))))
      · have hr : askOk 1 nm v n = false := by unfold askOk; rw [hn]; simp; omega
        (have fz := ga2 hr hn; repeat' (first | simp (maxDischargeDepth := 8) only [go_sem, rr, reduceIte, reduceCtorEq, Nat.reduceEqDiff, Nat.reduceAdd, Nat.reduceMul, Nat.reduceSub, Nat.reduceBEq, Nat.reduceLeDiff, Int.reduceEq, Int.reduceLT, Int.reduceLE, Int.reduceGE, Int.reduceGT, Int.reduceBEq, Int.reduceBNe, Int.reduceToNat, Int.reduceNeg, Int.reduceSub, Int.reduceAdd, Int.reduceMul, fz, Tryd.f11] | (with_reducible refine qg9 ?_ ?_; focus (first | (simp (maxDischargeDepth := 8) only [bb, kk, fz]; done) | kernel_rfl)) | ((with_reducible first | refine qf7 ?_ ?_ | refine qf8 ?_ ?_ | refine qf9 ?_ ?_ | refine qg ?_ ?_ | refine qg0 ?_ ?_ | refine qg1 ?_ ?_ | refine qg2 ?_ ?_); focus (first | assumption | omega | (simp only [bz, fz]; omega))) | ((with_reducible first | refine qg3 ?_ ?_ | refine qg4 ?_ ?_ | refine qg5 ?_ ?_); focus (first | assumption | omega | (simp only [bz, fz]; omega))) | ((with_reducible first | refine g1_u8w ?_ ?_ | refine qg7 ?_ ?_); (focus ((repeat' (with_reducible apply And.intro)) <;> (first | assumption | omega | (simp only [bz, fz]; omega) | (simp (maxDischargeDepth := 8) only [bb, fz]; done)))); intro _) | ((with_reducible refine g1_64w ?_ ?_); (focus ((repeat' (with_reducible apply And.intro)) <;> (first | assumption | omega | (simp only [bz, fz]; omega) | (simp (maxDischargeDepth := 8) only [bb, fz]; done)))); intro _) | (with_reducible apply call_elim; focus ((with_reducible first | apply e40 | apply e41 | apply e42) <;> (first | assumption | omega | (simp only [bz, fz]; omega) | (simp (maxDischargeDepth := 8) only [bb, fz]; done))))))
  · by_cases hk : 1 ≤ k ∧ k ≤ 4
    · have e1 : ((n : Int) == 0) = decide (n = 0) := by rw [Bool.eq_iff_iff]; simp
      cases hn : (nm == [] || nameOK nm) with
      | false =>
        have hr : askOk k nm v n = false := by unfold askOk; rw [hn]; simp []
        (have fz := ga2 hr hn; repeat' (first | simp (maxDischargeDepth := 8) only [go_sem, rr, reduceIte, reduceCtorEq, Nat.reduceEqDiff, Nat.reduceAdd, Nat.reduceMul, Nat.reduceSub, Nat.reduceBEq, Nat.reduceLeDiff, Int.reduceEq, Int.reduceLT, Int.reduceLE, Int.reduceGE, Int.reduceGT, Int.reduceBEq, Int.reduceBNe, Int.reduceToNat, Int.reduceNeg, Int.reduceSub, Int.reduceAdd, Int.reduceMul, fz, Tryd.f11] | (with_reducible refine qg9 ?_ ?_; focus (first | (simp (maxDischargeDepth := 8) only [bb, kk, fz]; done) | kernel_rfl)) | ((with_reducible first | refine qf7 ?_ ?_ | refine qf8 ?_ ?_ | refine qf9 ?_ ?_ | refine qg ?_ ?_ | refine qg0 ?_ ?_ | refine qg1 ?_ ?_ | refine qg2 ?_ ?_); focus (first | assumption | omega | (simp only [bz, fz]; omega))) | ((with_reducible first | refine qg3 ?_ ?_ | refine qg4 ?_ ?_ | refine qg5 ?_ ?_); focus (first | assumption | omega | (simp only [bz, fz]; omega))) | ((with_reducible first | refine g1_u8w ?_ ?_ | refine qg7 ?_ ?_); (focus ((repeat' (with_reducible apply And.intro)) <;> (first | assumption | omega | (simp only [bz, fz]; omega) | (simp (maxDischargeDepth := 8) only [bb, fz]; done)))); intro _) | ((with_reducible refine g1_64w ?_ ?_); (focus ((repeat' (with_reducible apply And.intro)) <;> (first | assumption | omega | (simp only [bz, fz]; omega) | (simp (maxDischargeDepth := 8) only [bb, fz]; done)))); intro _) | (with_reducible apply call_elim; focus ((with_reducible first | apply e40 | apply e41) <;> (first | assumption | omega | (simp only [bz, fz]; omega) | (simp (maxDischargeDepth := 8) only [bb, fz]; done))))))
      | true =>
        by_cases hv : 0 ≤ v ∧ v ≤ 1000000
        · have hr : askOk k nm v n = decide (n = 0) := by unfold askOk; rw [hn]; simp [hv, hk, k1]
          (have fz := ga3 hr hn e1; repeat' (first | simp (maxDischargeDepth := 8) only [go_sem, rr, reduceIte, reduceCtorEq, Nat.reduceEqDiff, Nat.reduceAdd, Nat.reduceMul, Nat.reduceSub, Nat.reduceBEq, Nat.reduceLeDiff, Int.reduceEq, Int.reduceLT, Int.reduceLE, Int.reduceGE, Int.reduceGT, Int.reduceBEq, Int.reduceBNe, Int.reduceToNat, Int.reduceNeg, Int.reduceSub, Int.reduceAdd, Int.reduceMul, fz, Tryd.f11] | (with_reducible refine qg9 ?_ ?_; focus (first | (simp (maxDischargeDepth := 8) only [bb, kk, fz]; done) | kernel_rfl)) | ((with_reducible first | refine qf7 ?_ ?_ | refine qf8 ?_ ?_ | refine qf9 ?_ ?_ | refine qg ?_ ?_ | refine qg0 ?_ ?_ | refine qg1 ?_ ?_ | refine qg2 ?_ ?_); focus (first | assumption | omega | (simp only [bz, fz]; omega))) | ((with_reducible first | refine qg3 ?_ ?_ | refine qg4 ?_ ?_ | refine qg5 ?_ ?_); focus (first | assumption | omega | (simp only [bz, fz]; omega))) | ((with_reducible first | refine g1_u8w ?_ ?_ | refine qg7 ?_ ?_); (focus ((repeat' (with_reducible apply And.intro)) <;> (first | assumption | omega | (simp only [bz, fz]; omega) | (simp (maxDischargeDepth := 8) only [bb, fz]; done)))); intro _) | ((with_reducible refine g1_64w ?_ ?_); (focus ((repeat' (with_reducible apply And.intro)) <;> (first | assumption | omega | (simp only [bz, fz]; omega) | (simp (maxDischargeDepth := 8) only [bb, fz]; done)))); intro _) | (with_reducible apply call_elim; focus ((with_reducible first | apply e40 | apply e41 | apply e42) <;> (first | assumption | omega | (simp only [bz, fz]; omega) | (simp (maxDischargeDepth := 8) only [bb, fz]; done))))))
        · have hr : askOk k nm v n = false := by unfold askOk; rw [hn]; simp; omega
          (have fz := ga2 hr hn; repeat' (first | simp (maxDischargeDepth := 8) only [go_sem, rr, reduceIte, reduceCtorEq, Nat.reduceEqDiff, Nat.reduceAdd, Nat.reduceMul, Nat.reduceSub, Nat.reduceBEq, Nat.reduceLeDiff, Int.reduceEq, Int.reduceLT, Int.reduceLE, Int.reduceGE, Int.reduceGT, Int.reduceBEq, Int.reduceBNe, Int.reduceToNat, Int.reduceNeg, Int.reduceSub, Int.reduceAdd, Int.reduceMul, fz, Tryd.f11] | (with_reducible refine qg9 ?_ ?_; focus (first | (simp (maxDischargeDepth := 8) only [bb, kk, fz]; done) | kernel_rfl)) | ((with_reducible first | refine qf7 ?_ ?_ | refine qf8 ?_ ?_ | refine qf9 ?_ ?_ | refine qg ?_ ?_ | refine qg0 ?_ ?_ | refine qg1 ?_ ?_ | refine qg2 ?_ ?_); focus (first | assumption | omega | (simp only [bz, fz]; omega))) | ((with_reducible first | refine qg3 ?_ ?_ | refine qg4 ?_ ?_ | refine qg5 ?_ ?_); focus (first | assumption | omega | (simp only [bz, fz]; omega))) | ((with_reducible first | refine g1_u8w ?_ ?_ | refine qg7 ?_ ?_); (focus ((repeat' (with_reducible apply And.intro)) <;> (first | assumption | omega | (simp only [bz, fz]; omega) | (simp (maxDischargeDepth := 8) only [bb, fz]; done)))); intro _) | ((with_reducible refine g1_64w ?_ ?_); (focus ((repeat' (with_reducible apply And.intro)) <;> (first | assumption | omega | (simp only [bz, fz]; omega) | (simp (maxDischargeDepth := 8) only [bb, fz]; done)))); intro _) | (with_reducible apply call_elim; focus ((with_reducible first | apply e40 | apply e41 | apply e42) <;> (first | assumption | omega | (simp only [bz, fz]; omega) | (simp (maxDischargeDepth := 8) only [bb, fz]; done))))))
    · have hr : askOk k nm v n = false := by
        have : (decide (1 ≤ k) && decide (k ≤ 4)) = false := by simp; omega
        simp [askOk, this]
      (repeat' (first | simp (maxDischargeDepth := 8) only [go_sem, rr, reduceIte, reduceCtorEq, Nat.reduceEqDiff, Nat.reduceAdd, Nat.reduceMul, Nat.reduceSub, Nat.reduceBEq, Nat.reduceLeDiff, Int.reduceEq, Int.reduceLT, Int.reduceLE, Int.reduceGE, Int.reduceGT, Int.reduceBEq, Int.reduceBNe, Int.reduceToNat, Int.reduceNeg, Int.reduceSub, Int.reduceAdd, Int.reduceMul, hr, Tryd.f11] | (with_reducible refine qg9 ?_ ?_; focus (first | (simp (maxDischargeDepth := 8) only [bb, kk, hr]; done) | kernel_rfl)) | ((with_reducible first | refine qf7 ?_ ?_ | refine qf8 ?_ ?_ | refine qf9 ?_ ?_ | refine qg ?_ ?_ | refine qg0 ?_ ?_ | refine qg1 ?_ ?_ | refine qg2 ?_ ?_); focus (first | assumption | omega | (simp only [bz, hr]; omega))) | ((with_reducible first | refine qg3 ?_ ?_ | refine qg4 ?_ ?_ | refine qg5 ?_ ?_); focus (first | assumption | omega | (simp only [bz, hr]; omega))) | ((with_reducible first | refine g1_u8w ?_ ?_ | refine qg7 ?_ ?_); (focus ((repeat' (with_reducible apply And.intro)) <;> (first | assumption | omega | (simp only [bz, hr]; omega) | (simp (maxDischargeDepth := 8) only [bb, hr]; done)))); intro _) | ((with_reducible refine g1_64w ?_ ?_); (focus ((repeat' (with_reducible apply And.intro)) <;> (first | assumption | omega | (simp only [bz, hr]; omega) | (simp (maxDischargeDepth := 8) only [bb, hr]; done)))); intro _) | (with_reducible apply call_elim; focus ((with_reducible first | apply e40 | apply e41 | apply e42) <;> (first | assumption | omega | (simp only [bz, hr]; omega) | (simp (maxDischargeDepth := 8) only [bb, hr]; done))))))
end Go.Proofs.YtgdldmfkgijkaaaDoor.VH.S
end

