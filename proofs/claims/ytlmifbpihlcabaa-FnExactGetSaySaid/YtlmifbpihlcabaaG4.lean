/- Part of a proof about the given program: a verified evaluator, and what it tells of the functions (VhS1, VhFA, VhFD, VhFM, VhFS, VhFS2). Conditions: none beyond the hypotheses that each theorem states. -/
import Derived.Test.YtlmifbpihlcabaaG3
import Derived.Test.YtlmifbpihlcabaaProg
set_option linter.unusedSimpArgs false
set_option linter.unusedVariables false
section
namespace Go.Proofs.Ytlmifbpihlcabaa.VH.S
open Go.Proofs
set_option maxRecDepth 100000

def rows : List (TypeId × Row) := [(1, ⟨.other, 1, 8, [.nilFunc], false⟩),
  (2, ⟨.int .i64, 1, 8, [.int .i64 0], false⟩),
  (3, ⟨.int .i64, 1, 8, [.int .i64 0], false⟩),
  (4, ⟨.bool, 1, 1, [.bool false], false⟩),
  (5, ⟨.int .u8, 1, 1, [.int .u8 0], false⟩),
  (6, ⟨.int .u8, 1, 1, [.int .u8 0], false⟩),
  (7, ⟨.struct [(0, 2), (1, 3), (2, 4), (3, 6)], 4, 24, [.int .i64 0, .int .i64 0, .bool false, .int .u8 0], false⟩),
  (8, ⟨.struct [(0, 2), (1, 3), (2, 4), (3, 6)], 4, 24, [.int .i64 0, .int .i64 0, .bool false, .int .u8 0], false⟩),
  (9, ⟨.string, 1, 16, [.string ByteArray.empty], false⟩),
  (10, ⟨.string, 1, 16, [.string ByteArray.empty], false⟩),
  (11, ⟨.string, 1, 16, [.string ByteArray.empty], false⟩),
  (12, ⟨.int .u64, 1, 8, [.int .u64 0], false⟩),
  (13, ⟨.struct [(0, 9), (1, 12)], 2, 24, [.string ByteArray.empty, .int .u64 0], false⟩),
  (14, ⟨.struct [(0, 9), (1, 12)], 2, 24, [.string ByteArray.empty, .int .u64 0], false⟩),
  (15, ⟨.pointer 81, 1, 8, [.pointer none], false⟩),
  (16, ⟨.pointer 84, 1, 8, [.pointer none], false⟩),
  (17, ⟨.pointer 94, 1, 8, [.pointer none], false⟩),
  (18, ⟨.struct [(0, 17)], 1, 8, [.pointer none], false⟩),
  (19, ⟨.struct [(0, 17)], 1, 8, [.pointer none], false⟩),
  (21, ⟨.int .i32, 1, 4, [.int .i32 0], false⟩),
  (22, ⟨.slice 5, 1, 24, [.slice none 0 0], false⟩),
  (23, ⟨.slice 3, 1, 24, [.slice none 0 0], false⟩),
  (24, ⟨.struct [(0, 3), (1, 3), (2, 22), (3, 3), (4, 3), (5, 23)], 6, 80, [.int .i64 0, .int .i64 0, .slice none 0 0, .int .i64 0, .int .i64 0, .slice none 0 0], false⟩),
  (25, ⟨.struct [(0, 3), (1, 3), (2, 22), (3, 3), (4, 3), (5, 23)], 6, 80, [.int .i64 0, .int .i64 0, .slice none 0 0, .int .i64 0, .int .i64 0, .slice none 0 0], false⟩),
  (26, ⟨.other, 1, 8, [.nilFunc], false⟩),
  (27, ⟨.other, 1, 8, [.nilFunc], false⟩),
  (28, ⟨.struct [(0, 3), (1, 3), (2, 22), (3, 3), (4, 3), (5, 23)], 6, 80, [.int .i64 0, .int .i64 0, .slice none 0 0, .int .i64 0, .int .i64 0, .slice none 0 0], false⟩),
  (29, ⟨.other, 1, 8, [.nilFunc], false⟩),
  (30, ⟨.other, 1, 8, [.nilFunc], false⟩),
  (31, ⟨.other, 1, 8, [.nilFunc], false⟩),
  (33, ⟨.other, 1, 8, [.nilFunc], false⟩),
  (34, ⟨.other, 1, 8, [.nilFunc], false⟩),
  (35, ⟨.other, 1, 8, [.nilFunc], false⟩),
  (36, ⟨.other, 1, 8, [.nilFunc], false⟩),
  (37, ⟨.other, 1, 8, [.nilFunc], false⟩),
  (38, ⟨.other, 1, 8, [.nilFunc], false⟩),
  (40, ⟨.other, 1, 8, [.nilFunc], false⟩),
  (41, ⟨.other, 1, 8, [.nilFunc], false⟩),
  (42, ⟨.other, 1, 8, [.nilFunc], false⟩),
  (43, ⟨.other, 1, 8, [.nilFunc], false⟩),
  (45, ⟨.other, 1, 8, [.nilFunc], false⟩),
  (46, ⟨.other, 1, 8, [.nilFunc], false⟩),
  (47, ⟨.other, 1, 8, [.nilFunc], false⟩),
  (48, ⟨.other, 1, 8, [.nilFunc], false⟩),
  (49, ⟨.other, 1, 8, [.nilFunc], false⟩),
  (50, ⟨.other, 1, 8, [.nilFunc], false⟩),
  (51, ⟨.other, 1, 8, [.nilFunc], false⟩),
  (52, ⟨.other, 1, 8, [.nilFunc], false⟩),
  (53, ⟨.other, 1, 8, [.nilFunc], false⟩),
  (54, ⟨.other, 1, 8, [.nilFunc], false⟩),
  (55, ⟨.other, 1, 8, [.nilFunc], false⟩),
  (57, ⟨.other, 1, 8, [.nilFunc], false⟩),
  (59, ⟨.other, 1, 8, [.nilFunc], false⟩),
  (60, ⟨.other, 1, 8, [.nilFunc], false⟩),
  (61, ⟨.int .u64, 1, 8, [.int .u64 0], false⟩),
  (62, ⟨.struct [(0, 61), (1, 61), (2, 61)], 3, 24, [.int .u64 0, .int .u64 0, .int .u64 0], false⟩),
  (63, ⟨.struct [(0, 61), (1, 61), (2, 61)], 3, 24, [.int .u64 0, .int .u64 0, .int .u64 0], false⟩),
  (64, ⟨.other, 1, 8, [.nilFunc], false⟩),
  (65, ⟨.other, 1, 8, [.nilFunc], false⟩),
  (66, ⟨.slice 22, 1, 24, [.slice none 0 0], false⟩),
  (67, ⟨.other, 1, 8, [.nilFunc], false⟩),
  (68, ⟨.int .u64, 1, 8, [.int .u64 0], false⟩),
  (70, ⟨.other, 1, 8, [.nilFunc], false⟩),
  (71, ⟨.other, 1, 8, [.nilFunc], false⟩),
  (72, ⟨.other, 1, 8, [.nilFunc], false⟩),
  (73, ⟨.array 3 61, 3, 24, [.int .u64 0, .int .u64 0, .int .u64 0], false⟩),
  (74, ⟨.array 3 61, 3, 24, [.int .u64 0, .int .u64 0, .int .u64 0], false⟩),
  (75, ⟨.other, 1, 8, [.nilFunc], false⟩),
  (76, ⟨.other, 1, 8, [.nilFunc], false⟩),
  (77, ⟨.other, 1, 8, [.nilFunc], false⟩),
  (78, ⟨.pointer 74, 1, 8, [.pointer none], false⟩),
  (79, ⟨.other, 1, 8, [.nilFunc], false⟩),
  (80, ⟨.struct [(0, 17), (1, 17), (2, 17), (3, 9)], 4, 40, [.pointer none, .pointer none, .pointer none, .string ByteArray.empty], false⟩),
  (81, ⟨.struct [(0, 17), (1, 17), (2, 17), (3, 9)], 4, 40, [.pointer none, .pointer none, .pointer none, .string ByteArray.empty], false⟩),
  (85, ⟨.other, 1, 8, [.nilFunc], false⟩),
  (86, ⟨.int .u32, 1, 4, [.int .u32 0], false⟩),
  (87, ⟨.int .u8, 1, 1, [.int .u8 0], false⟩),
  (88, ⟨.int .u8, 1, 1, [.int .u8 0], false⟩),
  (89, ⟨.other, 1, 8, [.nilFunc], false⟩),
  (90, ⟨.pointer 5, 1, 8, [.pointer none], false⟩),
  (91, ⟨.int .i32, 1, 4, [.int .i32 0], false⟩),
  (92, ⟨.int .i32, 1, 4, [.int .i32 0], false⟩),
  (93, ⟨.struct [(0, 12), (1, 12), (2, 86), (3, 87), (4, 5), (5, 5), (6, 88), (7, 89), (8, 90), (9, 91), (10, 92)], 11, 48, [.int .u64 0, .int .u64 0, .int .u32 0, .int .u8 0, .int .u8 0, .int .u8 0, .int .u8 0, .nilFunc, .pointer none, .int .i32 0, .int .i32 0], false⟩),
  (94, ⟨.struct [(0, 12), (1, 12), (2, 86), (3, 87), (4, 5), (5, 5), (6, 88), (7, 89), (8, 90), (9, 91), (10, 92)], 11, 48, [.int .u64 0, .int .u64 0, .int .u32 0, .int .u8 0, .int .u8 0, .int .u8 0, .int .u8 0, .nilFunc, .pointer none, .int .i32 0, .int .i32 0], false⟩)]
noncomputable def funs : List (FuncId × Func) := [(2, Try.f2), (3, Try.f3), (4, Try.f4), (5, Try.f5), (6, Try.f6), (7, Try.f7), (8, Try.f8), (9, Try.f9), (10, Try.f10), (11, Try.f11), (12, Try.f12), (13, Try.f13), (14, Try.f14), (15, Try.f15), (16, Try.f16), (17, Try.f17), (18, Try.f18), (19, Try.f19), (20, Try.f20), (21, Try.f21), (22, Try.f22), (23, Try.f23), (24, Try.f24), (25, Try.f25), (26, Try.f26), (27, Try.f27), (28, Try.f28), (29, Try.f29), (30, Try.f30), (31, Try.f31), (32, Try.f32), (33, Try.f33), (34, Try.f34), (35, Try.f35), (36, Try.f36), (37, Try.f37), (38, Try.f38), (39, Try.f39), (40, Try.f40), (41, Try.f41), (42, Try.f42), (43, Try.f43), (44, Try.f44), (45, Try.f45), (46, Try.f46), (47, Try.f47), (48, Try.f48), (49, Try.f49), (50, Try.f50), (51, Try.f51), (52, Try.f52), (53, Try.f53), (54, Try.f54), (55, Try.f55), (56, Try.f56), (57, Try.f57), (58, Try.f58), (59, Try.f59), (60, Try.f60), (61, Try.f61), (62, Try.f62), (63, Try.f63), (64, Try.f64), (65, Try.f65), (66, Try.f66), (67, Try.f67), (68, Try.f68), (69, Try.f69), (70, Try.f70)]
def lookN {α : Type} (d : α) : List (Nat × α) → Nat → α
  | [], _ => d
  | (a, x) :: r, n => if n = a then x else lookN d r n
def lends : List (Nat × List Bool) := [(17, [true, false]), (24, [true, false]), (51, [true, false]), (66, [true, false]), (67, [true, false]), (68, [true, false])]
def lives : List (Nat × List (Nat × List Nat)) := [(10, [(4, [1, 3])]),
  (16, [(4, [0, 1, 5])]),
  (17, [(2, [0, 1, 5])]),
  (18, [(2, [0, 1, 5])]),
  (21, [(20, [0, 2, 4, 5, 8, 9])]),
  (22, [(3, [0, 3, 4])]),
  (27, [(5, [0, 5, 6, 7, 15])]),
  (33, [(3, [0, 3, 4])]),
  (39, [(4, [0, 1, 5])]),
  (40, [(5, [0, 3, 4])]),
  (41, [(5, [0, 1, 5, 6])]),
  (44, [(3, [0, 3, 9, 10, 11]), (11, [6, 25, 26, 27])]),
  (46, [(3, [0, 5, 6])]),
  (48, [(3, [0, 4, 5])]),
  (50, [(4, [0, 2, 4, 5, 6, 7, 25, 26])]),
  (51, [(2, [0, 1, 5])]),
  (52, [(2, [0, 1, 5])]),
  (55, [(2, [0, 1, 7, 8])]),
  (57, [(2, [0, 2, 4, 7])]),
  (59, [(6, [0, 8, 9, 27, 28])]),
  (60, [(3, [3, 6, 7, 8])]),
  (66, [(1, [0, 1, 6, 7, 8])]),
  (68, [(1, [0, 4, 5])])]
def wks : List (Nat × Option Nat) := [(61, some 1)]
def boxs : List (Nat × Bool) := [(24, true)]
def notes : List (Nat × Bool) := [(50, true)]
noncomputable def E : Env where
  hand := fun _ _ _ => none
  row := rowsOf rows
  lend := lookN [] lends
  live := fun f r => lookN [] (lookN [] lives f) r
  body := bodiesOf funs
  wk := lookN none wks
  boxf := lookN false boxs
  notef := lookN false notes

theorem r1 : E.row 1 = some ⟨.other, 1, 8, [.nilFunc], false⟩ := rfl
theorem r2 : E.row 2 = some ⟨.int .i64, 1, 8, [.int .i64 0], false⟩ := rfl
theorem r3 : E.row 3 = some ⟨.int .i64, 1, 8, [.int .i64 0], false⟩ := rfl
theorem r4 : E.row 4 = some ⟨.bool, 1, 1, [.bool false], false⟩ := rfl
theorem r5 : E.row 5 = some ⟨.int .u8, 1, 1, [.int .u8 0], false⟩ := rfl
theorem r6 : E.row 6 = some ⟨.int .u8, 1, 1, [.int .u8 0], false⟩ := rfl
theorem r7 : E.row 7 = some ⟨.struct [(0, 2), (1, 3), (2, 4), (3, 6)], 4, 24, [.int .i64 0, .int .i64 0, .bool false, .int .u8 0], false⟩ := rfl
theorem r8 : E.row 8 = some ⟨.struct [(0, 2), (1, 3), (2, 4), (3, 6)], 4, 24, [.int .i64 0, .int .i64 0, .bool false, .int .u8 0], false⟩ := rfl
theorem r9 : E.row 9 = some ⟨.string, 1, 16, [.string ByteArray.empty], false⟩ := rfl
theorem r10 : E.row 10 = some ⟨.string, 1, 16, [.string ByteArray.empty], false⟩ := rfl
theorem r11 : E.row 11 = some ⟨.string, 1, 16, [.string ByteArray.empty], false⟩ := rfl
theorem r12 : E.row 12 = some ⟨.int .u64, 1, 8, [.int .u64 0], false⟩ := rfl
theorem r13 : E.row 13 = some ⟨.struct [(0, 9), (1, 12)], 2, 24, [.string ByteArray.empty, .int .u64 0], false⟩ := rfl
theorem r14 : E.row 14 = some ⟨.struct [(0, 9), (1, 12)], 2, 24, [.string ByteArray.empty, .int .u64 0], false⟩ := rfl
theorem r15 : E.row 15 = some ⟨.pointer 81, 1, 8, [.pointer none], false⟩ := rfl
theorem r16 : E.row 16 = some ⟨.pointer 84, 1, 8, [.pointer none], false⟩ := rfl
theorem r17 : E.row 17 = some ⟨.pointer 94, 1, 8, [.pointer none], false⟩ := rfl
theorem r18 : E.row 18 = some ⟨.struct [(0, 17)], 1, 8, [.pointer none], false⟩ := rfl
theorem r19 : E.row 19 = some ⟨.struct [(0, 17)], 1, 8, [.pointer none], false⟩ := rfl
theorem r21 : E.row 21 = some ⟨.int .i32, 1, 4, [.int .i32 0], false⟩ := rfl
theorem r22 : E.row 22 = some ⟨.slice 5, 1, 24, [.slice none 0 0], false⟩ := rfl
theorem r23 : E.row 23 = some ⟨.slice 3, 1, 24, [.slice none 0 0], false⟩ := rfl
theorem r24 : E.row 24 = some ⟨.struct [(0, 3), (1, 3), (2, 22), (3, 3), (4, 3), (5, 23)], 6, 80, [.int .i64 0, .int .i64 0, .slice none 0 0, .int .i64 0, .int .i64 0, .slice none 0 0], false⟩ := rfl
theorem r25 : E.row 25 = some ⟨.struct [(0, 3), (1, 3), (2, 22), (3, 3), (4, 3), (5, 23)], 6, 80, [.int .i64 0, .int .i64 0, .slice none 0 0, .int .i64 0, .int .i64 0, .slice none 0 0], false⟩ := rfl
theorem r26 : E.row 26 = some ⟨.other, 1, 8, [.nilFunc], false⟩ := rfl
theorem r27 : E.row 27 = some ⟨.other, 1, 8, [.nilFunc], false⟩ := rfl
theorem r28 : E.row 28 = some ⟨.struct [(0, 3), (1, 3), (2, 22), (3, 3), (4, 3), (5, 23)], 6, 80, [.int .i64 0, .int .i64 0, .slice none 0 0, .int .i64 0, .int .i64 0, .slice none 0 0], false⟩ := rfl
theorem r29 : E.row 29 = some ⟨.other, 1, 8, [.nilFunc], false⟩ := rfl
theorem r30 : E.row 30 = some ⟨.other, 1, 8, [.nilFunc], false⟩ := rfl
theorem r31 : E.row 31 = some ⟨.other, 1, 8, [.nilFunc], false⟩ := rfl
theorem r33 : E.row 33 = some ⟨.other, 1, 8, [.nilFunc], false⟩ := rfl
theorem r34 : E.row 34 = some ⟨.other, 1, 8, [.nilFunc], false⟩ := rfl
theorem r35 : E.row 35 = some ⟨.other, 1, 8, [.nilFunc], false⟩ := rfl
theorem r36 : E.row 36 = some ⟨.other, 1, 8, [.nilFunc], false⟩ := rfl
theorem r37 : E.row 37 = some ⟨.other, 1, 8, [.nilFunc], false⟩ := rfl
theorem r38 : E.row 38 = some ⟨.other, 1, 8, [.nilFunc], false⟩ := rfl
theorem r40 : E.row 40 = some ⟨.other, 1, 8, [.nilFunc], false⟩ := rfl
theorem r41 : E.row 41 = some ⟨.other, 1, 8, [.nilFunc], false⟩ := rfl
theorem r42 : E.row 42 = some ⟨.other, 1, 8, [.nilFunc], false⟩ := rfl
theorem r43 : E.row 43 = some ⟨.other, 1, 8, [.nilFunc], false⟩ := rfl
theorem r45 : E.row 45 = some ⟨.other, 1, 8, [.nilFunc], false⟩ := rfl
theorem r46 : E.row 46 = some ⟨.other, 1, 8, [.nilFunc], false⟩ := rfl
theorem r47 : E.row 47 = some ⟨.other, 1, 8, [.nilFunc], false⟩ := rfl
theorem r48 : E.row 48 = some ⟨.other, 1, 8, [.nilFunc], false⟩ := rfl
theorem r49 : E.row 49 = some ⟨.other, 1, 8, [.nilFunc], false⟩ := rfl
theorem r50 : E.row 50 = some ⟨.other, 1, 8, [.nilFunc], false⟩ := rfl
theorem r51 : E.row 51 = some ⟨.other, 1, 8, [.nilFunc], false⟩ := rfl
theorem r52 : E.row 52 = some ⟨.other, 1, 8, [.nilFunc], false⟩ := rfl
theorem r53 : E.row 53 = some ⟨.other, 1, 8, [.nilFunc], false⟩ := rfl
theorem r54 : E.row 54 = some ⟨.other, 1, 8, [.nilFunc], false⟩ := rfl
theorem r55 : E.row 55 = some ⟨.other, 1, 8, [.nilFunc], false⟩ := rfl
theorem r57 : E.row 57 = some ⟨.other, 1, 8, [.nilFunc], false⟩ := rfl
theorem r59 : E.row 59 = some ⟨.other, 1, 8, [.nilFunc], false⟩ := rfl
theorem r60 : E.row 60 = some ⟨.other, 1, 8, [.nilFunc], false⟩ := rfl
theorem r61 : E.row 61 = some ⟨.int .u64, 1, 8, [.int .u64 0], false⟩ := rfl
theorem r62 : E.row 62 = some ⟨.struct [(0, 61), (1, 61), (2, 61)], 3, 24, [.int .u64 0, .int .u64 0, .int .u64 0], false⟩ := rfl
theorem r63 : E.row 63 = some ⟨.struct [(0, 61), (1, 61), (2, 61)], 3, 24, [.int .u64 0, .int .u64 0, .int .u64 0], false⟩ := rfl
theorem r64 : E.row 64 = some ⟨.other, 1, 8, [.nilFunc], false⟩ := rfl
theorem r65 : E.row 65 = some ⟨.other, 1, 8, [.nilFunc], false⟩ := rfl
theorem r66 : E.row 66 = some ⟨.slice 22, 1, 24, [.slice none 0 0], false⟩ := rfl
theorem r67 : E.row 67 = some ⟨.other, 1, 8, [.nilFunc], false⟩ := rfl
theorem r68 : E.row 68 = some ⟨.int .u64, 1, 8, [.int .u64 0], false⟩ := rfl
theorem r70 : E.row 70 = some ⟨.other, 1, 8, [.nilFunc], false⟩ := rfl
theorem r71 : E.row 71 = some ⟨.other, 1, 8, [.nilFunc], false⟩ := rfl
theorem r72 : E.row 72 = some ⟨.other, 1, 8, [.nilFunc], false⟩ := rfl
theorem r73 : E.row 73 = some ⟨.array 3 61, 3, 24, [.int .u64 0, .int .u64 0, .int .u64 0], false⟩ := rfl
theorem r74 : E.row 74 = some ⟨.array 3 61, 3, 24, [.int .u64 0, .int .u64 0, .int .u64 0], false⟩ := rfl
theorem r75 : E.row 75 = some ⟨.other, 1, 8, [.nilFunc], false⟩ := rfl
theorem r76 : E.row 76 = some ⟨.other, 1, 8, [.nilFunc], false⟩ := rfl
theorem r77 : E.row 77 = some ⟨.other, 1, 8, [.nilFunc], false⟩ := rfl
theorem r78 : E.row 78 = some ⟨.pointer 74, 1, 8, [.pointer none], false⟩ := rfl
theorem r79 : E.row 79 = some ⟨.other, 1, 8, [.nilFunc], false⟩ := rfl
theorem r80 : E.row 80 = some ⟨.struct [(0, 17), (1, 17), (2, 17), (3, 9)], 4, 40, [.pointer none, .pointer none, .pointer none, .string ByteArray.empty], false⟩ := rfl
theorem r81 : E.row 81 = some ⟨.struct [(0, 17), (1, 17), (2, 17), (3, 9)], 4, 40, [.pointer none, .pointer none, .pointer none, .string ByteArray.empty], false⟩ := rfl
theorem r85 : E.row 85 = some ⟨.other, 1, 8, [.nilFunc], false⟩ := rfl
theorem r86 : E.row 86 = some ⟨.int .u32, 1, 4, [.int .u32 0], false⟩ := rfl
theorem r87 : E.row 87 = some ⟨.int .u8, 1, 1, [.int .u8 0], false⟩ := rfl
theorem r88 : E.row 88 = some ⟨.int .u8, 1, 1, [.int .u8 0], false⟩ := rfl
theorem r89 : E.row 89 = some ⟨.other, 1, 8, [.nilFunc], false⟩ := rfl
theorem r90 : E.row 90 = some ⟨.pointer 5, 1, 8, [.pointer none], false⟩ := rfl
theorem r91 : E.row 91 = some ⟨.int .i32, 1, 4, [.int .i32 0], false⟩ := rfl
theorem r92 : E.row 92 = some ⟨.int .i32, 1, 4, [.int .i32 0], false⟩ := rfl
theorem r93 : E.row 93 = some ⟨.struct [(0, 12), (1, 12), (2, 86), (3, 87), (4, 5), (5, 5), (6, 88), (7, 89), (8, 90), (9, 91), (10, 92)], 11, 48, [.int .u64 0, .int .u64 0, .int .u32 0, .int .u8 0, .int .u8 0, .int .u8 0, .int .u8 0, .nilFunc, .pointer none, .int .i32 0, .int .i32 0], false⟩ := rfl
theorem r94 : E.row 94 = some ⟨.struct [(0, 12), (1, 12), (2, 86), (3, 87), (4, 5), (5, 5), (6, 88), (7, 89), (8, 90), (9, 91), (10, 92)], 11, 48, [.int .u64 0, .int .u64 0, .int .u32 0, .int .u8 0, .int .u8 0, .int .u8 0, .int .u8 0, .nilFunc, .pointer none, .int .i32 0, .int .i32 0], false⟩ := rfl
theorem b2 : E.body 2 = some (Try.f2.body.getD .skip, Try.f2.results.toList) := rfl
theorem b3 : E.body 3 = some (Try.f3.body.getD .skip, Try.f3.results.toList) := rfl
theorem b4 : E.body 4 = some (Try.f4.body.getD .skip, Try.f4.results.toList) := rfl
theorem b5 : E.body 5 = some (Try.f5.body.getD .skip, Try.f5.results.toList) := rfl
theorem b6 : E.body 6 = some (Try.f6.body.getD .skip, Try.f6.results.toList) := rfl
theorem b7 : E.body 7 = some (Try.f7.body.getD .skip, Try.f7.results.toList) := rfl
theorem b8 : E.body 8 = some (Try.f8.body.getD .skip, Try.f8.results.toList) := rfl
theorem b9 : E.body 9 = some (Try.f9.body.getD .skip, Try.f9.results.toList) := rfl
theorem b10 : E.body 10 = some (Try.f10.body.getD .skip, Try.f10.results.toList) := rfl
theorem b11 : E.body 11 = some (Try.f11.body.getD .skip, Try.f11.results.toList) := rfl
theorem b12 : E.body 12 = some (Try.f12.body.getD .skip, Try.f12.results.toList) := rfl
theorem b13 : E.body 13 = some (Try.f13.body.getD .skip, Try.f13.results.toList) := rfl
theorem b14 : E.body 14 = some (Try.f14.body.getD .skip, Try.f14.results.toList) := rfl
theorem b15 : E.body 15 = some (Try.f15.body.getD .skip, Try.f15.results.toList) := rfl
theorem b16 : E.body 16 = some (Try.f16.body.getD .skip, Try.f16.results.toList) := rfl
theorem b17 : E.body 17 = some (Try.f17.body.getD .skip, Try.f17.results.toList) := rfl
theorem b18 : E.body 18 = some (Try.f18.body.getD .skip, Try.f18.results.toList) := rfl
theorem b19 : E.body 19 = some (Try.f19.body.getD .skip, Try.f19.results.toList) := rfl
theorem b20 : E.body 20 = some (Try.f20.body.getD .skip, Try.f20.results.toList) := rfl
theorem b21 : E.body 21 = some (Try.f21.body.getD .skip, Try.f21.results.toList) := rfl
theorem b22 : E.body 22 = some (Try.f22.body.getD .skip, Try.f22.results.toList) := rfl
theorem b23 : E.body 23 = some (Try.f23.body.getD .skip, Try.f23.results.toList) := rfl
theorem b24 : E.body 24 = some (Try.f24.body.getD .skip, Try.f24.results.toList) := rfl
theorem b25 : E.body 25 = some (Try.f25.body.getD .skip, Try.f25.results.toList) := rfl
theorem b26 : E.body 26 = some (Try.f26.body.getD .skip, Try.f26.results.toList) := rfl
theorem b27 : E.body 27 = some (Try.f27.body.getD .skip, Try.f27.results.toList) := rfl
theorem b28 : E.body 28 = some (Try.f28.body.getD .skip, Try.f28.results.toList) := rfl
theorem b29 : E.body 29 = some (Try.f29.body.getD .skip, Try.f29.results.toList) := rfl
theorem b30 : E.body 30 = some (Try.f30.body.getD .skip, Try.f30.results.toList) := rfl
theorem b31 : E.body 31 = some (Try.f31.body.getD .skip, Try.f31.results.toList) := rfl
theorem b32 : E.body 32 = some (Try.f32.body.getD .skip, Try.f32.results.toList) := rfl
theorem b33 : E.body 33 = some (Try.f33.body.getD .skip, Try.f33.results.toList) := rfl
theorem b34 : E.body 34 = some (Try.f34.body.getD .skip, Try.f34.results.toList) := rfl
theorem b35 : E.body 35 = some (Try.f35.body.getD .skip, Try.f35.results.toList) := rfl
theorem b36 : E.body 36 = some (Try.f36.body.getD .skip, Try.f36.results.toList) := rfl
theorem b37 : E.body 37 = some (Try.f37.body.getD .skip, Try.f37.results.toList) := rfl
theorem b38 : E.body 38 = some (Try.f38.body.getD .skip, Try.f38.results.toList) := rfl
theorem b39 : E.body 39 = some (Try.f39.body.getD .skip, Try.f39.results.toList) := rfl
theorem b40 : E.body 40 = some (Try.f40.body.getD .skip, Try.f40.results.toList) := rfl
theorem b41 : E.body 41 = some (Try.f41.body.getD .skip, Try.f41.results.toList) := rfl
theorem b42 : E.body 42 = some (Try.f42.body.getD .skip, Try.f42.results.toList) := rfl
theorem b43 : E.body 43 = some (Try.f43.body.getD .skip, Try.f43.results.toList) := rfl
theorem b44 : E.body 44 = some (Try.f44.body.getD .skip, Try.f44.results.toList) := rfl
theorem b45 : E.body 45 = some (Try.f45.body.getD .skip, Try.f45.results.toList) := rfl
theorem b46 : E.body 46 = some (Try.f46.body.getD .skip, Try.f46.results.toList) := rfl
theorem b47 : E.body 47 = some (Try.f47.body.getD .skip, Try.f47.results.toList) := rfl
theorem b48 : E.body 48 = some (Try.f48.body.getD .skip, Try.f48.results.toList) := rfl
theorem b49 : E.body 49 = some (Try.f49.body.getD .skip, Try.f49.results.toList) := rfl
theorem b50 : E.body 50 = some (Try.f50.body.getD .skip, Try.f50.results.toList) := rfl
theorem b51 : E.body 51 = some (Try.f51.body.getD .skip, Try.f51.results.toList) := rfl
theorem b52 : E.body 52 = some (Try.f52.body.getD .skip, Try.f52.results.toList) := rfl
theorem b53 : E.body 53 = some (Try.f53.body.getD .skip, Try.f53.results.toList) := rfl
theorem b54 : E.body 54 = some (Try.f54.body.getD .skip, Try.f54.results.toList) := rfl
theorem b55 : E.body 55 = some (Try.f55.body.getD .skip, Try.f55.results.toList) := rfl
theorem b56 : E.body 56 = some (Try.f56.body.getD .skip, Try.f56.results.toList) := rfl
theorem b57 : E.body 57 = some (Try.f57.body.getD .skip, Try.f57.results.toList) := rfl
theorem b58 : E.body 58 = some (Try.f58.body.getD .skip, Try.f58.results.toList) := rfl
theorem b59 : E.body 59 = some (Try.f59.body.getD .skip, Try.f59.results.toList) := rfl
theorem b60 : E.body 60 = some (Try.f60.body.getD .skip, Try.f60.results.toList) := rfl
theorem b61 : E.body 61 = some (Try.f61.body.getD .skip, Try.f61.results.toList) := rfl
theorem b62 : E.body 62 = some (Try.f62.body.getD .skip, Try.f62.results.toList) := rfl
theorem b63 : E.body 63 = some (Try.f63.body.getD .skip, Try.f63.results.toList) := rfl
theorem b64 : E.body 64 = some (Try.f64.body.getD .skip, Try.f64.results.toList) := rfl
theorem b65 : E.body 65 = some (Try.f65.body.getD .skip, Try.f65.results.toList) := rfl
theorem b66 : E.body 66 = some (Try.f66.body.getD .skip, Try.f66.results.toList) := rfl
theorem b67 : E.body 67 = some (Try.f67.body.getD .skip, Try.f67.results.toList) := rfl
theorem b68 : E.body 68 = some (Try.f68.body.getD .skip, Try.f68.results.toList) := rfl
theorem b69 : E.body 69 = some (Try.f69.body.getD .skip, Try.f69.results.toList) := rfl
theorem b70 : E.body 70 = some (Try.f70.body.getD .skip, Try.f70.results.toList) := rfl
theorem lv10_4 : E.live 10 4 = [1, 3] := rfl
theorem lv16_4 : E.live 16 4 = [0, 1, 5] := rfl
theorem lv17_2 : E.live 17 2 = [0, 1, 5] := rfl
theorem lv18_2 : E.live 18 2 = [0, 1, 5] := rfl
theorem lv21_20 : E.live 21 20 = [0, 2, 4, 5, 8, 9] := rfl
theorem lv22_3 : E.live 22 3 = [0, 3, 4] := rfl
theorem lv27_5 : E.live 27 5 = [0, 5, 6, 7, 15] := rfl
theorem lv33_3 : E.live 33 3 = [0, 3, 4] := rfl
theorem lv39_4 : E.live 39 4 = [0, 1, 5] := rfl
theorem lv40_5 : E.live 40 5 = [0, 3, 4] := rfl
theorem lv41_5 : E.live 41 5 = [0, 1, 5, 6] := rfl
theorem lv44_3 : E.live 44 3 = [0, 3, 9, 10, 11] := rfl
theorem lv44_11 : E.live 44 11 = [6, 25, 26, 27] := rfl
theorem lv46_3 : E.live 46 3 = [0, 5, 6] := rfl
theorem lv48_3 : E.live 48 3 = [0, 4, 5] := rfl
theorem lv50_4 : E.live 50 4 = [0, 2, 4, 5, 6, 7, 25, 26] := rfl
theorem lv51_2 : E.live 51 2 = [0, 1, 5] := rfl
theorem lv52_2 : E.live 52 2 = [0, 1, 5] := rfl
theorem lv55_2 : E.live 55 2 = [0, 1, 7, 8] := rfl
theorem lv57_2 : E.live 57 2 = [0, 2, 4, 7] := rfl
theorem lv59_6 : E.live 59 6 = [0, 8, 9, 27, 28] := rfl
theorem lv60_3 : E.live 60 3 = [3, 6, 7, 8] := rfl
theorem lv66_1 : E.live 66 1 = [0, 1, 6, 7, 8] := rfl
theorem lv68_1 : E.live 68 1 = [0, 4, 5] := rfl
theorem ld2 : E.lend 2 = [] := rfl
theorem ld3 : E.lend 3 = [] := rfl
theorem ld4 : E.lend 4 = [] := rfl
theorem ld5 : E.lend 5 = [] := rfl
theorem ld6 : E.lend 6 = [] := rfl
theorem ld7 : E.lend 7 = [] := rfl
theorem ld8 : E.lend 8 = [] := rfl
theorem ld9 : E.lend 9 = [] := rfl
theorem ld10 : E.lend 10 = [] := rfl
theorem ld11 : E.lend 11 = [] := rfl
theorem ld12 : E.lend 12 = [] := rfl
theorem ld13 : E.lend 13 = [] := rfl
theorem ld14 : E.lend 14 = [] := rfl
theorem ld15 : E.lend 15 = [] := rfl
theorem ld16 : E.lend 16 = [] := rfl
theorem ld17 : E.lend 17 = [true, false] := rfl
theorem ld18 : E.lend 18 = [] := rfl
theorem ld19 : E.lend 19 = [] := rfl
theorem ld20 : E.lend 20 = [] := rfl
theorem ld21 : E.lend 21 = [] := rfl
theorem ld22 : E.lend 22 = [] := rfl
theorem ld23 : E.lend 23 = [] := rfl
theorem ld24 : E.lend 24 = [true, false] := rfl
theorem ld25 : E.lend 25 = [] := rfl
theorem ld26 : E.lend 26 = [] := rfl
theorem ld27 : E.lend 27 = [] := rfl
theorem ld28 : E.lend 28 = [] := rfl
theorem ld29 : E.lend 29 = [] := rfl
theorem ld30 : E.lend 30 = [] := rfl
theorem ld31 : E.lend 31 = [] := rfl
theorem ld32 : E.lend 32 = [] := rfl
theorem ld33 : E.lend 33 = [] := rfl
theorem ld34 : E.lend 34 = [] := rfl
theorem ld35 : E.lend 35 = [] := rfl
theorem ld36 : E.lend 36 = [] := rfl
theorem ld37 : E.lend 37 = [] := rfl
theorem ld38 : E.lend 38 = [] := rfl
theorem ld39 : E.lend 39 = [] := rfl
theorem ld40 : E.lend 40 = [] := rfl
theorem ld41 : E.lend 41 = [] := rfl
theorem ld42 : E.lend 42 = [] := rfl
theorem ld43 : E.lend 43 = [] := rfl
theorem ld44 : E.lend 44 = [] := rfl
theorem ld45 : E.lend 45 = [] := rfl
theorem ld46 : E.lend 46 = [] := rfl
theorem ld47 : E.lend 47 = [] := rfl
theorem ld48 : E.lend 48 = [] := rfl
theorem ld49 : E.lend 49 = [] := rfl
theorem ld50 : E.lend 50 = [] := rfl
theorem ld51 : E.lend 51 = [true, false] := rfl
theorem ld52 : E.lend 52 = [] := rfl
theorem ld53 : E.lend 53 = [] := rfl
theorem ld54 : E.lend 54 = [] := rfl
theorem ld55 : E.lend 55 = [] := rfl
theorem ld56 : E.lend 56 = [] := rfl
theorem ld57 : E.lend 57 = [] := rfl
theorem ld58 : E.lend 58 = [] := rfl
theorem ld59 : E.lend 59 = [] := rfl
theorem ld60 : E.lend 60 = [] := rfl
theorem ld61 : E.lend 61 = [] := rfl
theorem ld62 : E.lend 62 = [] := rfl
theorem ld63 : E.lend 63 = [] := rfl
theorem ld64 : E.lend 64 = [] := rfl
theorem ld65 : E.lend 65 = [] := rfl
theorem ld66 : E.lend 66 = [true, false] := rfl
theorem ld67 : E.lend 67 = [true, false] := rfl
theorem ld68 : E.lend 68 = [true, false] := rfl
theorem ld69 : E.lend 69 = [] := rfl
theorem ld70 : E.lend 70 = [] := rfl
theorem bf2 : E.boxf 2 = false := rfl
theorem bf3 : E.boxf 3 = false := rfl
theorem bf4 : E.boxf 4 = false := rfl
theorem bf5 : E.boxf 5 = false := rfl
theorem bf6 : E.boxf 6 = false := rfl
theorem bf7 : E.boxf 7 = false := rfl
theorem bf8 : E.boxf 8 = false := rfl
theorem bf9 : E.boxf 9 = false := rfl
theorem bf10 : E.boxf 10 = false := rfl
theorem bf11 : E.boxf 11 = false := rfl
theorem bf12 : E.boxf 12 = false := rfl
theorem bf13 : E.boxf 13 = false := rfl
theorem bf14 : E.boxf 14 = false := rfl
theorem bf15 : E.boxf 15 = false := rfl
theorem bf16 : E.boxf 16 = false := rfl
theorem bf17 : E.boxf 17 = false := rfl
theorem bf18 : E.boxf 18 = false := rfl
theorem bf19 : E.boxf 19 = false := rfl
theorem bf20 : E.boxf 20 = false := rfl
theorem bf21 : E.boxf 21 = false := rfl
theorem bf22 : E.boxf 22 = false := rfl
theorem bf23 : E.boxf 23 = false := rfl
theorem bf24 : E.boxf 24 = true := rfl
theorem bf25 : E.boxf 25 = false := rfl
theorem bf26 : E.boxf 26 = false := rfl
theorem bf27 : E.boxf 27 = false := rfl
theorem bf28 : E.boxf 28 = false := rfl
theorem bf29 : E.boxf 29 = false := rfl
theorem bf30 : E.boxf 30 = false := rfl
theorem bf31 : E.boxf 31 = false := rfl
theorem bf32 : E.boxf 32 = false := rfl
theorem bf33 : E.boxf 33 = false := rfl
theorem bf34 : E.boxf 34 = false := rfl
theorem bf35 : E.boxf 35 = false := rfl
theorem bf36 : E.boxf 36 = false := rfl
theorem bf37 : E.boxf 37 = false := rfl
theorem bf38 : E.boxf 38 = false := rfl
theorem bf39 : E.boxf 39 = false := rfl
theorem bf40 : E.boxf 40 = false := rfl
theorem bf41 : E.boxf 41 = false := rfl
theorem bf42 : E.boxf 42 = false := rfl
theorem bf43 : E.boxf 43 = false := rfl
theorem bf44 : E.boxf 44 = false := rfl
theorem bf45 : E.boxf 45 = false := rfl
theorem bf46 : E.boxf 46 = false := rfl
theorem bf47 : E.boxf 47 = false := rfl
theorem bf48 : E.boxf 48 = false := rfl
theorem bf49 : E.boxf 49 = false := rfl
theorem bf50 : E.boxf 50 = false := rfl
theorem bf51 : E.boxf 51 = false := rfl
theorem bf52 : E.boxf 52 = false := rfl
theorem bf53 : E.boxf 53 = false := rfl
theorem bf54 : E.boxf 54 = false := rfl
theorem bf55 : E.boxf 55 = false := rfl
theorem bf56 : E.boxf 56 = false := rfl
theorem bf57 : E.boxf 57 = false := rfl
theorem bf58 : E.boxf 58 = false := rfl
theorem bf59 : E.boxf 59 = false := rfl
theorem bf60 : E.boxf 60 = false := rfl
theorem bf61 : E.boxf 61 = false := rfl
theorem bf62 : E.boxf 62 = false := rfl
theorem bf63 : E.boxf 63 = false := rfl
theorem bf64 : E.boxf 64 = false := rfl
theorem bf65 : E.boxf 65 = false := rfl
theorem bf66 : E.boxf 66 = false := rfl
theorem bf67 : E.boxf 67 = false := rfl
theorem bf68 : E.boxf 68 = false := rfl
theorem bf69 : E.boxf 69 = false := rfl
theorem bf70 : E.boxf 70 = false := rfl
theorem nf2 : E.notef 2 = false := rfl
theorem nf3 : E.notef 3 = false := rfl
theorem nf4 : E.notef 4 = false := rfl
theorem nf5 : E.notef 5 = false := rfl
theorem nf6 : E.notef 6 = false := rfl
theorem nf7 : E.notef 7 = false := rfl
theorem nf8 : E.notef 8 = false := rfl
theorem nf9 : E.notef 9 = false := rfl
theorem nf10 : E.notef 10 = false := rfl
theorem nf11 : E.notef 11 = false := rfl
theorem nf12 : E.notef 12 = false := rfl
theorem nf13 : E.notef 13 = false := rfl
theorem nf14 : E.notef 14 = false := rfl
theorem nf15 : E.notef 15 = false := rfl
theorem nf16 : E.notef 16 = false := rfl
theorem nf17 : E.notef 17 = false := rfl
theorem nf18 : E.notef 18 = false := rfl
theorem nf19 : E.notef 19 = false := rfl
theorem nf20 : E.notef 20 = false := rfl
theorem nf21 : E.notef 21 = false := rfl
theorem nf22 : E.notef 22 = false := rfl
theorem nf23 : E.notef 23 = false := rfl
theorem nf24 : E.notef 24 = false := rfl
theorem nf25 : E.notef 25 = false := rfl
theorem nf26 : E.notef 26 = false := rfl
theorem nf27 : E.notef 27 = false := rfl
theorem nf28 : E.notef 28 = false := rfl
theorem nf29 : E.notef 29 = false := rfl
theorem nf30 : E.notef 30 = false := rfl
theorem nf31 : E.notef 31 = false := rfl
theorem nf32 : E.notef 32 = false := rfl
theorem nf33 : E.notef 33 = false := rfl
theorem nf34 : E.notef 34 = false := rfl
theorem nf35 : E.notef 35 = false := rfl
theorem nf36 : E.notef 36 = false := rfl
theorem nf37 : E.notef 37 = false := rfl
theorem nf38 : E.notef 38 = false := rfl
theorem nf39 : E.notef 39 = false := rfl
theorem nf40 : E.notef 40 = false := rfl
theorem nf41 : E.notef 41 = false := rfl
theorem nf42 : E.notef 42 = false := rfl
theorem nf43 : E.notef 43 = false := rfl
theorem nf44 : E.notef 44 = false := rfl
theorem nf45 : E.notef 45 = false := rfl
theorem nf46 : E.notef 46 = false := rfl
theorem nf47 : E.notef 47 = false := rfl
theorem nf48 : E.notef 48 = false := rfl
theorem nf49 : E.notef 49 = false := rfl
theorem nf50 : E.notef 50 = true := rfl
theorem nf51 : E.notef 51 = false := rfl
theorem nf52 : E.notef 52 = false := rfl
theorem nf53 : E.notef 53 = false := rfl
theorem nf54 : E.notef 54 = false := rfl
theorem nf55 : E.notef 55 = false := rfl
theorem nf56 : E.notef 56 = false := rfl
theorem nf57 : E.notef 57 = false := rfl
theorem nf58 : E.notef 58 = false := rfl
theorem nf59 : E.notef 59 = false := rfl
theorem nf60 : E.notef 60 = false := rfl
theorem nf61 : E.notef 61 = false := rfl
theorem nf62 : E.notef 62 = false := rfl
theorem nf63 : E.notef 63 = false := rfl
theorem nf64 : E.notef 64 = false := rfl
theorem nf65 : E.notef 65 = false := rfl
theorem nf66 : E.notef 66 = false := rfl
theorem nf67 : E.notef 67 = false := rfl
theorem nf68 : E.notef 68 = false := rfl
theorem nf69 : E.notef 69 = false := rfl
theorem nf70 : E.notef 70 = false := rfl
theorem wk2 : E.wk 2 = none := rfl
theorem wk3 : E.wk 3 = none := rfl
theorem wk4 : E.wk 4 = none := rfl
theorem wk5 : E.wk 5 = none := rfl
theorem wk6 : E.wk 6 = none := rfl
theorem wk7 : E.wk 7 = none := rfl
theorem wk8 : E.wk 8 = none := rfl
theorem wk9 : E.wk 9 = none := rfl
theorem wk10 : E.wk 10 = none := rfl
theorem wk11 : E.wk 11 = none := rfl
theorem wk12 : E.wk 12 = none := rfl
theorem wk13 : E.wk 13 = none := rfl
theorem wk14 : E.wk 14 = none := rfl
theorem wk15 : E.wk 15 = none := rfl
theorem wk16 : E.wk 16 = none := rfl
theorem wk17 : E.wk 17 = none := rfl
theorem wk18 : E.wk 18 = none := rfl
theorem wk19 : E.wk 19 = none := rfl
theorem wk20 : E.wk 20 = none := rfl
theorem wk21 : E.wk 21 = none := rfl
theorem wk22 : E.wk 22 = none := rfl
theorem wk23 : E.wk 23 = none := rfl
theorem wk24 : E.wk 24 = none := rfl
theorem wk25 : E.wk 25 = none := rfl
theorem wk26 : E.wk 26 = none := rfl
theorem wk27 : E.wk 27 = none := rfl
theorem wk28 : E.wk 28 = none := rfl
theorem wk29 : E.wk 29 = none := rfl
theorem wk30 : E.wk 30 = none := rfl
theorem wk31 : E.wk 31 = none := rfl
theorem wk32 : E.wk 32 = none := rfl
theorem wk33 : E.wk 33 = none := rfl
theorem wk34 : E.wk 34 = none := rfl
theorem wk35 : E.wk 35 = none := rfl
theorem wk36 : E.wk 36 = none := rfl
theorem wk37 : E.wk 37 = none := rfl
theorem wk38 : E.wk 38 = none := rfl
theorem wk39 : E.wk 39 = none := rfl
theorem wk40 : E.wk 40 = none := rfl
theorem wk41 : E.wk 41 = none := rfl
theorem wk42 : E.wk 42 = none := rfl
theorem wk43 : E.wk 43 = none := rfl
theorem wk44 : E.wk 44 = none := rfl
theorem wk45 : E.wk 45 = none := rfl
theorem wk46 : E.wk 46 = none := rfl
theorem wk47 : E.wk 47 = none := rfl
theorem wk48 : E.wk 48 = none := rfl
theorem wk49 : E.wk 49 = none := rfl
theorem wk50 : E.wk 50 = none := rfl
theorem wk51 : E.wk 51 = none := rfl
theorem wk52 : E.wk 52 = none := rfl
theorem wk53 : E.wk 53 = none := rfl
theorem wk54 : E.wk 54 = none := rfl
theorem wk55 : E.wk 55 = none := rfl
theorem wk56 : E.wk 56 = none := rfl
theorem wk57 : E.wk 57 = none := rfl
theorem wk58 : E.wk 58 = none := rfl
theorem wk59 : E.wk 59 = none := rfl
theorem wk60 : E.wk 60 = none := rfl
theorem wk61 : E.wk 61 = some 1 := rfl
theorem wk62 : E.wk 62 = none := rfl
theorem wk63 : E.wk 63 = none := rfl
theorem wk64 : E.wk 64 = none := rfl
theorem wk65 : E.wk 65 = none := rfl
theorem wk66 : E.wk 66 = none := rfl
theorem wk67 : E.wk 67 = none := rfl
theorem wk68 : E.wk 68 = none := rfl
theorem wk69 : E.wk 69 = none := rfl
theorem wk70 : E.wk 70 = none := rfl

theorem rowsOK : rows.all (fun p => rowB Try.prog p.1 p.2) = true := by kernel_rfl
theorem EOK : E.OK Try.prog := fun t r h => rows_ok (E := E) rowsOK t r h

theorem fb2 : funcB Try.f2 = true := by kernel_rfl
theorem fb3 : funcB Try.f3 = true := by kernel_rfl
theorem fb4 : funcB Try.f4 = true := by kernel_rfl
theorem fb5 : funcB Try.f5 = true := by kernel_rfl
theorem fb6 : funcB Try.f6 = true := by kernel_rfl
theorem fb7 : funcB Try.f7 = true := by kernel_rfl
theorem fb8 : funcB Try.f8 = true := by kernel_rfl
theorem fb9 : funcB Try.f9 = true := by kernel_rfl
theorem fb10 : funcB Try.f10 = true := by kernel_rfl
theorem fb11 : funcB Try.f11 = true := by kernel_rfl
theorem fb12 : funcB Try.f12 = true := by kernel_rfl
theorem fb13 : funcB Try.f13 = true := by kernel_rfl
theorem fb14 : funcB Try.f14 = true := by kernel_rfl
theorem fb15 : funcB Try.f15 = true := by kernel_rfl
theorem fb16 : funcB Try.f16 = true := by kernel_rfl
theorem fb17 : funcB Try.f17 = true := by kernel_rfl
theorem fb18 : funcB Try.f18 = true := by kernel_rfl
theorem fb19 : funcB Try.f19 = true := by kernel_rfl
theorem fb20 : funcB Try.f20 = true := by kernel_rfl
theorem fb21 : funcB Try.f21 = true := by kernel_rfl
theorem fb22 : funcB Try.f22 = true := by kernel_rfl
theorem fb23 : funcB Try.f23 = true := by kernel_rfl
theorem fb24 : funcB Try.f24 = true := by kernel_rfl
theorem fb25 : funcB Try.f25 = true := by kernel_rfl
theorem fb26 : funcB Try.f26 = true := by kernel_rfl
theorem fb27 : funcB Try.f27 = true := by kernel_rfl
theorem fb28 : funcB Try.f28 = true := by kernel_rfl
theorem fb29 : funcB Try.f29 = true := by kernel_rfl
theorem fb30 : funcB Try.f30 = true := by kernel_rfl
theorem fb31 : funcB Try.f31 = true := by kernel_rfl
theorem fb32 : funcB Try.f32 = true := by kernel_rfl
theorem fb33 : funcB Try.f33 = true := by kernel_rfl
theorem fb34 : funcB Try.f34 = true := by kernel_rfl
theorem fb35 : funcB Try.f35 = true := by kernel_rfl
theorem fb36 : funcB Try.f36 = true := by kernel_rfl
theorem fb37 : funcB Try.f37 = true := by kernel_rfl
theorem fb38 : funcB Try.f38 = true := by kernel_rfl
theorem fb39 : funcB Try.f39 = true := by kernel_rfl
theorem fb40 : funcB Try.f40 = true := by kernel_rfl
theorem fb41 : funcB Try.f41 = true := by kernel_rfl
theorem fb42 : funcB Try.f42 = true := by kernel_rfl
theorem fb43 : funcB Try.f43 = true := by kernel_rfl
theorem fb44 : funcB Try.f44 = true := by kernel_rfl
theorem fb45 : funcB Try.f45 = true := by kernel_rfl
theorem fb46 : funcB Try.f46 = true := by kernel_rfl
theorem fb47 : funcB Try.f47 = true := by kernel_rfl
theorem fb48 : funcB Try.f48 = true := by kernel_rfl
theorem fb49 : funcB Try.f49 = true := by kernel_rfl
theorem fb50 : funcB Try.f50 = true := by kernel_rfl
theorem fb51 : funcB Try.f51 = true := by kernel_rfl
theorem fb52 : funcB Try.f52 = true := by kernel_rfl
theorem fb53 : funcB Try.f53 = true := by kernel_rfl
theorem fb54 : funcB Try.f54 = true := by kernel_rfl
theorem fb55 : funcB Try.f55 = true := by kernel_rfl
theorem fb56 : funcB Try.f56 = true := by kernel_rfl
theorem fb57 : funcB Try.f57 = true := by kernel_rfl
theorem fb58 : funcB Try.f58 = true := by kernel_rfl
theorem fb59 : funcB Try.f59 = true := by kernel_rfl
theorem fb60 : funcB Try.f60 = true := by kernel_rfl
theorem fb61 : funcB Try.f61 = true := by kernel_rfl
theorem fb62 : funcB Try.f62 = true := by kernel_rfl
theorem fb63 : funcB Try.f63 = true := by kernel_rfl
theorem fb64 : funcB Try.f64 = true := by kernel_rfl
theorem fb65 : funcB Try.f65 = true := by kernel_rfl
theorem fb66 : funcB Try.f66 = true := by kernel_rfl
theorem fb67 : funcB Try.f67 = true := by kernel_rfl
theorem fb68 : funcB Try.f68 = true := by kernel_rfl
theorem fb69 : funcB Try.f69 = true := by kernel_rfl
theorem fb70 : funcB Try.f70 = true := by kernel_rfl
theorem EB : E.Bodies Try.prog := ⟨fun f c rs h => bodies_ok (l := funs) (by
  intro p hp
  simp only [funs, List.mem_cons, List.not_mem_nil, or_false] at hp
  rcases hp with rfl | rfl | rfl | rfl | rfl | rfl | rfl | rfl | rfl | rfl | rfl | rfl | rfl | rfl | rfl | rfl | rfl | rfl | rfl | rfl | rfl | rfl | rfl | rfl | rfl | rfl | rfl | rfl | rfl | rfl | rfl | rfl | rfl | rfl | rfl | rfl | rfl | rfl | rfl | rfl | rfl | rfl | rfl | rfl | rfl | rfl | rfl | rfl | rfl | rfl | rfl | rfl | rfl | rfl | rfl | rfl | rfl | rfl | rfl | rfl | rfl | rfl | rfl | rfl | rfl | rfl | rfl | rfl | rfl
  · exact ⟨Try.func2, fb2⟩
  · exact ⟨Try.func3, fb3⟩
  · exact ⟨Try.func4, fb4⟩
  · exact ⟨Try.func5, fb5⟩
  · exact ⟨Try.func6, fb6⟩
  · exact ⟨Try.func7, fb7⟩
  · exact ⟨Try.func8, fb8⟩
  · exact ⟨Try.func9, fb9⟩
  · exact ⟨Try.func10, fb10⟩
  · exact ⟨Try.func11, fb11⟩
  · exact ⟨Try.func12, fb12⟩
  · exact ⟨Try.func13, fb13⟩
  · exact ⟨Try.func14, fb14⟩
  · exact ⟨Try.func15, fb15⟩
  · exact ⟨Try.func16, fb16⟩
  · exact ⟨Try.func17, fb17⟩
  · exact ⟨Try.func18, fb18⟩
  · exact ⟨Try.func19, fb19⟩
  · exact ⟨Try.func20, fb20⟩
  · exact ⟨Try.func21, fb21⟩
  · exact ⟨Try.func22, fb22⟩
  · exact ⟨Try.func23, fb23⟩
  · exact ⟨Try.func24, fb24⟩
  · exact ⟨Try.func25, fb25⟩
  · exact ⟨Try.func26, fb26⟩
  · exact ⟨Try.func27, fb27⟩
  · exact ⟨Try.func28, fb28⟩
  · exact ⟨Try.func29, fb29⟩
  · exact ⟨Try.func30, fb30⟩
  · exact ⟨Try.func31, fb31⟩
  · exact ⟨Try.func32, fb32⟩
  · exact ⟨Try.func33, fb33⟩
  · exact ⟨Try.func34, fb34⟩
  · exact ⟨Try.func35, fb35⟩
  · exact ⟨Try.func36, fb36⟩
  · exact ⟨Try.func37, fb37⟩
  · exact ⟨Try.func38, fb38⟩
  · exact ⟨Try.func39, fb39⟩
  · exact ⟨Try.func40, fb40⟩
  · exact ⟨Try.func41, fb41⟩
  · exact ⟨Try.func42, fb42⟩
  · exact ⟨Try.func43, fb43⟩
  · exact ⟨Try.func44, fb44⟩
  · exact ⟨Try.func45, fb45⟩
  · exact ⟨Try.func46, fb46⟩
  · exact ⟨Try.func47, fb47⟩
  · exact ⟨Try.func48, fb48⟩
  · exact ⟨Try.func49, fb49⟩
  · exact ⟨Try.func50, fb50⟩
  · exact ⟨Try.func51, fb51⟩
  · exact ⟨Try.func52, fb52⟩
  · exact ⟨Try.func53, fb53⟩
  · exact ⟨Try.func54, fb54⟩
  · exact ⟨Try.func55, fb55⟩
  · exact ⟨Try.func56, fb56⟩
  · exact ⟨Try.func57, fb57⟩
  · exact ⟨Try.func58, fb58⟩
  · exact ⟨Try.func59, fb59⟩
  · exact ⟨Try.func60, fb60⟩
  · exact ⟨Try.func61, fb61⟩
  · exact ⟨Try.func62, fb62⟩
  · exact ⟨Try.func63, fb63⟩
  · exact ⟨Try.func64, fb64⟩
  · exact ⟨Try.func65, fb65⟩
  · exact ⟨Try.func66, fb66⟩
  · exact ⟨Try.func67, fb67⟩
  · exact ⟨Try.func68, fb68⟩
  · exact ⟨Try.func69, fb69⟩
  · exact ⟨Try.func70, fb70⟩) f c rs h⟩
theorem EP : Try.prog.follows .mixedOrders = true := by kernel_rfl
theorem EH : OrcOK Try.prog E.hand := fun f args cts x cts' h => by simp [E] at h
theorem rr : type_of% (And.intro @r1 (And.intro @r2 (And.intro @r3 (And.intro @r4 (And.intro @r5 (And.intro @r6 (And.intro @r7 (And.intro @r8 (And.intro @r9 (And.intro @r10 (And.intro @r11 (And.intro @r12 (And.intro @r13 (And.intro @r14 (And.intro @r15 (And.intro @r16 (And.intro @r17 (And.intro @r18 (And.intro @r19 (And.intro @r21 (And.intro @r22 (And.intro @r23 (And.intro @r24 (And.intro @r25 (And.intro @r26 (And.intro @r27 (And.intro @r28 (And.intro @r29 (And.intro @r30 (And.intro @r31 (And.intro @r33 (And.intro @r34 (And.intro @r35 (And.intro @r36 (And.intro @r37 (And.intro @r38 (And.intro @r40 (And.intro @r41 (And.intro @r42 (And.intro @r43 (And.intro @r45 (And.intro @r46 (And.intro @r47 (And.intro @r48 (And.intro @r49 (And.intro @r50 (And.intro @r51 (And.intro @r52 (And.intro @r53 (And.intro @r54 (And.intro @r55 (And.intro @r57 (And.intro @r59 (And.intro @r60 (And.intro @r61 (And.intro @r62 (And.intro @r63 (And.intro @r64 (And.intro @r65 (And.intro @r66 (And.intro @r67 (And.intro @r68 (And.intro @r70 (And.intro @r71 (And.intro @r72 (And.intro @r73 (And.intro @r74 (And.intro @r75 (And.intro @r76 (And.intro @r77 (And.intro @r78 (And.intro @r79 (And.intro @r80 (And.intro @r81 (And.intro @r85 (And.intro @r86 (And.intro @r87 (And.intro @r88 (And.intro @r89 (And.intro @r90 (And.intro @r91 (And.intro @r92 (And.intro @r93 (And.intro @r94 (And.intro @lv10_4 (And.intro @lv16_4 (And.intro @lv17_2 (And.intro @lv18_2 (And.intro @lv21_20 (And.intro @lv22_3 (And.intro @lv27_5 (And.intro @lv33_3 (And.intro @lv39_4 (And.intro @lv40_5 (And.intro @lv41_5 (And.intro @lv44_3 (And.intro @lv44_11 (And.intro @lv46_3 (And.intro @lv48_3 (And.intro @lv50_4 (And.intro @lv51_2 (And.intro @lv52_2 (And.intro @lv55_2 (And.intro @lv57_2 (And.intro @lv59_6 (And.intro @lv60_3 (And.intro @lv66_1 (And.intro @lv68_1 (And.intro @ld2 (And.intro @ld3 (And.intro @ld4 (And.intro @ld5 (And.intro @ld6 (And.intro @ld7 (And.intro @ld8 (And.intro @ld9 (And.intro @ld10 (And.intro @ld11 (And.intro @ld12 (And.intro @ld13 (And.intro @ld14 (And.intro @ld15 (And.intro @ld16 (And.intro @ld17 (And.intro @ld18 (And.intro @ld19 (And.intro @ld20 (And.intro @ld21 (And.intro @ld22 (And.intro @ld23 (And.intro @ld24 (And.intro @ld25 (And.intro @ld26 (And.intro @ld27 (And.intro @ld28 (And.intro @ld29 (And.intro @ld30 (And.intro @ld31 (And.intro @ld32 (And.intro @ld33 (And.intro @ld34 (And.intro @ld35 (And.intro @ld36 (And.intro @ld37 (And.intro @ld38 (And.intro @ld39 (And.intro @ld40 (And.intro @ld41 (And.intro @ld42 (And.intro @ld43 (And.intro @ld44 (And.intro @ld45 (And.intro @ld46 (And.intro @ld47 (And.intro @ld48 (And.intro @ld49 (And.intro @ld50 (And.intro @ld51 (And.intro @ld52 (And.intro @ld53 (And.intro @ld54 (And.intro @ld55 (And.intro @ld56 (And.intro @ld57 (And.intro @ld58 (And.intro @ld59 (And.intro @ld60 (And.intro @ld61 (And.intro @ld62 (And.intro @ld63 (And.intro @ld64 (And.intro @ld65 (And.intro @ld66 (And.intro @ld67 (And.intro @ld68 (And.intro @ld69 (And.intro @ld70 (And.intro @wk2 (And.intro @wk3 (And.intro @wk4 (And.intro @wk5 (And.intro @wk6 (And.intro @wk7 (And.intro @wk8 (And.intro @wk9 (And.intro @wk10 (And.intro @wk11 (And.intro @wk12 (And.intro @wk13 (And.intro @wk14 (And.intro @wk15 (And.intro @wk16 (And.intro @wk17 (And.intro @wk18 (And.intro @wk19 (And.intro @wk20 (And.intro @wk21 (And.intro @wk22 (And.intro @wk23 (And.intro @wk24 (And.intro @wk25 (And.intro @wk26 (And.intro @wk27 (And.intro @wk28 (And.intro @wk29 (And.intro @wk30 (And.intro @wk31 (And.intro @wk32 (And.intro @wk33 (And.intro @wk34 (And.intro @wk35 (And.intro @wk36 (And.intro @wk37 (And.intro @wk38 (And.intro @wk39 (And.intro @wk40 (And.intro @wk41 (And.intro @wk42 (And.intro @wk43 (And.intro @wk44 (And.intro @wk45 (And.intro @wk46 (And.intro @wk47 (And.intro @wk48 (And.intro @wk49 (And.intro @wk50 (And.intro @wk51 (And.intro @wk52 (And.intro @wk53 (And.intro @wk54 (And.intro @wk55 (And.intro @wk56 (And.intro @wk57 (And.intro @wk58 (And.intro @wk59 (And.intro @wk60 (And.intro @wk61 (And.intro @wk62 (And.intro @wk63 (And.intro @wk64 (And.intro @wk65 (And.intro @wk66 (And.intro @wk67 (And.intro @wk68 (And.intro @wk69 (And.intro @wk70 (And.intro @bf2 (And.intro @bf3 (And.intro @bf4 (And.intro @bf5 (And.intro @bf6 (And.intro @bf7 (And.intro @bf8 (And.intro @bf9 (And.intro @bf10 (And.intro @bf11 (And.intro @bf12 (And.intro @bf13 (And.intro @bf14 (And.intro @bf15 (And.intro @bf16 (And.intro @bf17 (And.intro @bf18 (And.intro @bf19 (And.intro @bf20 (And.intro @bf21 (And.intro @bf22 (And.intro @bf23 (And.intro @bf24 (And.intro @bf25 (And.intro @bf26 (And.intro @bf27 (And.intro @bf28 (And.intro @bf29 (And.intro @bf30 (And.intro @bf31 (And.intro @bf32 (And.intro @bf33 (And.intro @bf34 (And.intro @bf35 (And.intro @bf36 (And.intro @bf37 (And.intro @bf38 (And.intro @bf39 (And.intro @bf40 (And.intro @bf41 (And.intro @bf42 (And.intro @bf43 (And.intro @bf44 (And.intro @bf45 (And.intro @bf46 (And.intro @bf47 (And.intro @bf48 (And.intro @bf49 (And.intro @bf50 (And.intro @bf51 (And.intro @bf52 (And.intro @bf53 (And.intro @bf54 (And.intro @bf55 (And.intro @bf56 (And.intro @bf57 (And.intro @bf58 (And.intro @bf59 (And.intro @bf60 (And.intro @bf61 (And.intro @bf62 (And.intro @bf63 (And.intro @bf64 (And.intro @bf65 (And.intro @bf66 (And.intro @bf67 (And.intro @bf68 (And.intro @bf69 (And.intro @bf70 (And.intro @nf2 (And.intro @nf3 (And.intro @nf4 (And.intro @nf5 (And.intro @nf6 (And.intro @nf7 (And.intro @nf8 (And.intro @nf9 (And.intro @nf10 (And.intro @nf11 (And.intro @nf12 (And.intro @nf13 (And.intro @nf14 (And.intro @nf15 (And.intro @nf16 (And.intro @nf17 (And.intro @nf18 (And.intro @nf19 (And.intro @nf20 (And.intro @nf21 (And.intro @nf22 (And.intro @nf23 (And.intro @nf24 (And.intro @nf25 (And.intro @nf26 (And.intro @nf27 (And.intro @nf28 (And.intro @nf29 (And.intro @nf30 (And.intro @nf31 (And.intro @nf32 (And.intro @nf33 (And.intro @nf34 (And.intro @nf35 (And.intro @nf36 (And.intro @nf37 (And.intro @nf38 (And.intro @nf39 (And.intro @nf40 (And.intro @nf41 (And.intro @nf42 (And.intro @nf43 (And.intro @nf44 (And.intro @nf45 (And.intro @nf46 (And.intro @nf47 (And.intro @nf48 (And.intro @nf49 (And.intro @nf50 (And.intro @nf51 (And.intro @nf52 (And.intro @nf53 (And.intro @nf54 (And.intro @nf55 (And.intro @nf56 (And.intro @nf57 (And.intro @nf58 (And.intro @nf59 (And.intro @nf60 (And.intro @nf61 (And.intro @nf62 (And.intro @nf63 (And.intro @nf64 (And.intro @nf65 (And.intro @nf66 (And.intro @nf67 (And.intro @nf68 (And.intro @nf69 (@nf70)))))))))))))))))))))))))))))))))))))))))))))))))))))))))))))))))))))))))))))))))))))))))))))))))))))))))))))))))))))))))))))))))))))))))))))))))))))))))))))))))))))))))))))))))))))))))))))))))))))))))))))))))))))))))))))))))))))))))))))))))))))))))))))))))))))))))))))))))))))))))))))))))))))))))))))))))))))))))))))))))))))))))))))))))))))))))))))))))))))))))))))))))))))))))))))))) := And.intro @r1 (And.intro @r2 (And.intro @r3 (And.intro @r4 (And.intro @r5 (And.intro @r6 (And.intro @r7 (And.intro @r8 (And.intro @r9 (And.intro @r10 (And.intro @r11 (And.intro @r12 (And.intro @r13 (And.intro @r14 (And.intro @r15 (And.intro @r16 (And.intro @r17 (And.intro @r18 (And.intro @r19 (And.intro @r21 (And.intro @r22 (And.intro @r23 (And.intro @r24 (And.intro @r25 (And.intro @r26 (And.intro @r27 (And.intro @r28 (And.intro @r29 (And.intro @r30 (And.intro @r31 (And.intro @r33 (And.intro @r34 (And.intro @r35 (And.intro @r36 (And.intro @r37 (And.intro @r38 (And.intro @r40 (And.intro @r41 (And.intro @r42 (And.intro @r43 (And.intro @r45 (And.intro @r46 (And.intro @r47 (And.intro @r48 (And.intro @r49 (And.intro @r50 (And.intro @r51 (And.intro @r52 (And.intro @r53 (And.intro @r54 (And.intro @r55 (And.intro @r57 (And.intro @r59 (And.intro @r60 (And.intro @r61 (And.intro @r62 (And.intro @r63 (And.intro @r64 (And.intro @r65 (And.intro @r66 (And.intro @r67 (And.intro @r68 (And.intro @r70 (And.intro @r71 (And.intro @r72 (And.intro @r73 (And.intro @r74 (And.intro @r75 (And.intro @r76 (And.intro @r77 (And.intro @r78 (And.intro @r79 (And.intro @r80 (And.intro @r81 (And.intro @r85 (And.intro @r86 (And.intro @r87 (And.intro @r88 (And.intro @r89 (And.intro @r90 (And.intro @r91 (And.intro @r92 (And.intro @r93 (And.intro @r94 (And.intro @lv10_4 (And.intro @lv16_4 (And.intro @lv17_2 (And.intro @lv18_2 (And.intro @lv21_20 (And.intro @lv22_3 (And.intro @lv27_5 (And.intro @lv33_3 (And.intro @lv39_4 (And.intro @lv40_5 (And.intro @lv41_5 (And.intro @lv44_3 (And.intro @lv44_11 (And.intro @lv46_3 (And.intro @lv48_3 (And.intro @lv50_4 (And.intro @lv51_2 (And.intro @lv52_2 (And.intro @lv55_2 (And.intro @lv57_2 (And.intro @lv59_6 (And.intro @lv60_3 (And.intro @lv66_1 (And.intro @lv68_1 (And.intro @ld2 (And.intro @ld3 (And.intro @ld4 (And.intro @ld5 (And.intro @ld6 (And.intro @ld7 (And.intro @ld8 (And.intro @ld9 (And.intro @ld10 (And.intro @ld11 (And.intro @ld12 (And.intro @ld13 (And.intro @ld14 (And.intro @ld15 (And.intro @ld16 (And.intro @ld17 (And.intro @ld18 (And.intro @ld19 (And.intro @ld20 (And.intro @ld21 (And.intro @ld22 (And.intro @ld23 (And.intro @ld24 (And.intro @ld25 (And.intro @ld26 (And.intro @ld27 (And.intro @ld28 (And.intro @ld29 (And.intro @ld30 (And.intro @ld31 (And.intro @ld32 (And.intro @ld33 (And.intro @ld34 (And.intro @ld35 (And.intro @ld36 (And.intro @ld37 (And.intro @ld38 (And.intro @ld39 (And.intro @ld40 (And.intro @ld41 (And.intro @ld42 (And.intro @ld43 (And.intro @ld44 (And.intro @ld45 (And.intro @ld46 (And.intro @ld47 (And.intro @ld48 (And.intro @ld49 (And.intro @ld50 (And.intro @ld51 (And.intro @ld52 (And.intro @ld53 (And.intro @ld54 (And.intro @ld55 (And.intro @ld56 (And.intro @ld57 (And.intro @ld58 (And.intro @ld59 (And.intro @ld60 (And.intro @ld61 (And.intro @ld62 (And.intro @ld63 (And.intro @ld64 (And.intro @ld65 (And.intro @ld66 (And.intro @ld67 (And.intro @ld68 (And.intro @ld69 (And.intro @ld70 (And.intro @wk2 (And.intro @wk3 (And.intro @wk4 (And.intro @wk5 (And.intro @wk6 (And.intro @wk7 (And.intro @wk8 (And.intro @wk9 (And.intro @wk10 (And.intro @wk11 (And.intro @wk12 (And.intro @wk13 (And.intro @wk14 (And.intro @wk15 (And.intro @wk16 (And.intro @wk17 (And.intro @wk18 (And.intro @wk19 (And.intro @wk20 (And.intro @wk21 (And.intro @wk22 (And.intro @wk23 (And.intro @wk24 (And.intro @wk25 (And.intro @wk26 (And.intro @wk27 (And.intro @wk28 (And.intro @wk29 (And.intro @wk30 (And.intro @wk31 (And.intro @wk32 (And.intro @wk33 (And.intro @wk34 (And.intro @wk35 (And.intro @wk36 (And.intro @wk37 (And.intro @wk38 (And.intro @wk39 (And.intro @wk40 (And.intro @wk41 (And.intro @wk42 (And.intro @wk43 (And.intro @wk44 (And.intro @wk45 (And.intro @wk46 (And.intro @wk47 (And.intro @wk48 (And.intro @wk49 (And.intro @wk50 (And.intro @wk51 (And.intro @wk52 (And.intro @wk53 (And.intro @wk54 (And.intro @wk55 (And.intro @wk56 (And.intro @wk57 (And.intro @wk58 (And.intro @wk59 (And.intro @wk60 (And.intro @wk61 (And.intro @wk62 (And.intro @wk63 (And.intro @wk64 (And.intro @wk65 (And.intro @wk66 (And.intro @wk67 (And.intro @wk68 (And.intro @wk69 (And.intro @wk70 (And.intro @bf2 (And.intro @bf3 (And.intro @bf4 (And.intro @bf5 (And.intro @bf6 (And.intro @bf7 (And.intro @bf8 (And.intro @bf9 (And.intro @bf10 (And.intro @bf11 (And.intro @bf12 (And.intro @bf13 (And.intro @bf14 (And.intro @bf15 (And.intro @bf16 (And.intro @bf17 (And.intro @bf18 (And.intro @bf19 (And.intro @bf20 (And.intro @bf21 (And.intro @bf22 (And.intro @bf23 (And.intro @bf24 (And.intro @bf25 (And.intro @bf26 (And.intro @bf27 (And.intro @bf28 (And.intro @bf29 (And.intro @bf30 (And.intro @bf31 (And.intro @bf32 (And.intro @bf33 (And.intro @bf34 (And.intro @bf35 (And.intro @bf36 (And.intro @bf37 (And.intro @bf38 (And.intro @bf39 (And.intro @bf40 (And.intro @bf41 (And.intro @bf42 (And.intro @bf43 (And.intro @bf44 (And.intro @bf45 (And.intro @bf46 (And.intro @bf47 (And.intro @bf48 (And.intro @bf49 (And.intro @bf50 (And.intro @bf51 (And.intro @bf52 (And.intro @bf53 (And.intro @bf54 (And.intro @bf55 (And.intro @bf56 (And.intro @bf57 (And.intro @bf58 (And.intro @bf59 (And.intro @bf60 (And.intro @bf61 (And.intro @bf62 (And.intro @bf63 (And.intro @bf64 (And.intro @bf65 (And.intro @bf66 (And.intro @bf67 (And.intro @bf68 (And.intro @bf69 (And.intro @bf70 (And.intro @nf2 (And.intro @nf3 (And.intro @nf4 (And.intro @nf5 (And.intro @nf6 (And.intro @nf7 (And.intro @nf8 (And.intro @nf9 (And.intro @nf10 (And.intro @nf11 (And.intro @nf12 (And.intro @nf13 (And.intro @nf14 (And.intro @nf15 (And.intro @nf16 (And.intro @nf17 (And.intro @nf18 (And.intro @nf19 (And.intro @nf20 (And.intro @nf21 (And.intro @nf22 (And.intro @nf23 (And.intro @nf24 (And.intro @nf25 (And.intro @nf26 (And.intro @nf27 (And.intro @nf28 (And.intro @nf29 (And.intro @nf30 (And.intro @nf31 (And.intro @nf32 (And.intro @nf33 (And.intro @nf34 (And.intro @nf35 (And.intro @nf36 (And.intro @nf37 (And.intro @nf38 (And.intro @nf39 (And.intro @nf40 (And.intro @nf41 (And.intro @nf42 (And.intro @nf43 (And.intro @nf44 (And.intro @nf45 (And.intro @nf46 (And.intro @nf47 (And.intro @nf48 (And.intro @nf49 (And.intro @nf50 (And.intro @nf51 (And.intro @nf52 (And.intro @nf53 (And.intro @nf54 (And.intro @nf55 (And.intro @nf56 (And.intro @nf57 (And.intro @nf58 (And.intro @nf59 (And.intro @nf60 (And.intro @nf61 (And.intro @nf62 (And.intro @nf63 (And.intro @nf64 (And.intro @nf65 (And.intro @nf66 (And.intro @nf67 (And.intro @nf68 (And.intro @nf69 (@nf70)))))))))))))))))))))))))))))))))))))))))))))))))))))))))))))))))))))))))))))))))))))))))))))))))))))))))))))))))))))))))))))))))))))))))))))))))))))))))))))))))))))))))))))))))))))))))))))))))))))))))))))))))))))))))))))))))))))))))))))))))))))))))))))))))))))))))))))))))))))))))))))))))))))))))))))))))))))))))))))))))))))))))))))))))))))))))))))))))))))))))))))))))))))))))))))))
end Go.Proofs.Ytlmifbpihlcabaa.VH.S
end

section
namespace Go.Proofs.Ytlmifbpihlcabaa.VH.S
open Go.Proofs
set_option maxRecDepth 100000
set_option maxHeartbeats 4000000
set_option linter.unusedSimpArgs false

theorem e32 (d : Nat) (x lo hi : Int) : evFun E (d+1) 32 [vi x, vi lo, vi hi] [] = some (vb (decide (x ≥ lo) && decide (x ≤ hi)), []) := by
  refine evFun_body b32 ?_
  simp only [vv, firstRegion, apartAll, clash, meets, execOp, evBox, opnd, builtinHM, bin, convHM, fillP, fieldsPlace, solid, inOrd, sliceHM, bound, zOK, appendHM, srcCells, borL, isSl, slLen, storeHM, loadHM, look1, idxAddr, arrAddr, cellsOf, TD.agg, loadedL, loaded, borrowed, isOwn, fieldR, partHM, absorbL, absorb1, setAt, killAV, killL, leafV, getR, isNil, nilV, Array.toList, List.map, bne_self_eq_false, reduceIte, reduceCtorEq, Nat.reduceEqDiff, Nat.reduceAdd, Nat.reduceMul, Nat.reduceSub, Nat.reduceBEq, Nat.reduceLeDiff, Int.reduceEq, Int.reduceLT, Int.reduceLE, Int.reduceGE, Int.reduceGT, Int.reduceBEq, Int.reduceBNe, Int.reduceToNat, Int.reduceNeg, Int.reduceSub, Int.reduceAdd, Int.reduceMul, rr, Try.f32]
  refine opG_elim (fun h => ?_) (fun h => ?_) <;> simp only [vv, firstRegion, apartAll, clash, meets, execOp, evBox, opnd, builtinHM, bin, convHM, fillP, fieldsPlace, solid, inOrd, sliceHM, bound, zOK, appendHM, srcCells, borL, isSl, slLen, storeHM, loadHM, look1, idxAddr, arrAddr, cellsOf, TD.agg, loadedL, loaded, borrowed, isOwn, fieldR, partHM, absorbL, absorb1, setAt, killAV, killL, leafV, getR, isNil, nilV, Array.toList, List.map, bne_self_eq_false, reduceIte, reduceCtorEq, Nat.reduceEqDiff, Nat.reduceAdd, Nat.reduceMul, Nat.reduceSub, Nat.reduceBEq, Nat.reduceLeDiff, Int.reduceEq, Int.reduceLT, Int.reduceLE, Int.reduceGE, Int.reduceGT, Int.reduceBEq, Int.reduceBNe, Int.reduceToNat, Int.reduceNeg, Int.reduceSub, Int.reduceAdd, Int.reduceMul, rr, h] <;> simp only [vv, ff, firstRegion, apartAll, clash, meets, execOp, evBox, opnd, builtinHM, bin, convHM, fillP, fieldsPlace, solid, inOrd, sliceHM, bound, zOK, appendHM, srcCells, borL, isSl, slLen, storeHM, loadHM, look1, idxAddr, arrAddr, cellsOf, TD.agg, loadedL, loaded, borrowed, isOwn, fieldR, partHM, absorbL, absorb1, setAt, killAV, killL, leafV, getR, isNil, nilV, Array.toList, List.map, bne_self_eq_false, reduceIte, reduceCtorEq, Nat.reduceEqDiff, Nat.reduceAdd, Nat.reduceMul, Nat.reduceSub, Nat.reduceBEq, Nat.reduceLeDiff, Int.reduceEq, Int.reduceLT, Int.reduceLE, Int.reduceGE, Int.reduceGT, Int.reduceBEq, Int.reduceBNe, Int.reduceToNat, Int.reduceNeg, Int.reduceSub, Int.reduceAdd, Int.reduceMul, finish, wkAV, resOf, resa, noSnap, noSnapL, noSnapO, keep, liveKeys, keysL, keysAV, renAV, renL, rr]
theorem e34 (d : Nat) (x lo hi : Int) : evFun E (d+1) 34 [vi x, vi lo, vi hi] [] = some (vb (decide (x ≥ lo) && decide (x ≤ hi)), []) := by
  refine evFun_body b34 ?_
  simp only [vv, firstRegion, apartAll, clash, meets, execOp, evBox, opnd, builtinHM, bin, convHM, fillP, fieldsPlace, solid, inOrd, sliceHM, bound, zOK, appendHM, srcCells, borL, isSl, slLen, storeHM, loadHM, look1, idxAddr, arrAddr, cellsOf, TD.agg, loadedL, loaded, borrowed, isOwn, fieldR, partHM, absorbL, absorb1, setAt, killAV, killL, leafV, getR, isNil, nilV, Array.toList, List.map, bne_self_eq_false, reduceIte, reduceCtorEq, Nat.reduceEqDiff, Nat.reduceAdd, Nat.reduceMul, Nat.reduceSub, Nat.reduceBEq, Nat.reduceLeDiff, Int.reduceEq, Int.reduceLT, Int.reduceLE, Int.reduceGE, Int.reduceGT, Int.reduceBEq, Int.reduceBNe, Int.reduceToNat, Int.reduceNeg, Int.reduceSub, Int.reduceAdd, Int.reduceMul, rr, Try.f34]
  refine opG_elim (fun h => ?_) (fun h => ?_) <;> simp only [vv, firstRegion, apartAll, clash, meets, execOp, evBox, opnd, builtinHM, bin, convHM, fillP, fieldsPlace, solid, inOrd, sliceHM, bound, zOK, appendHM, srcCells, borL, isSl, slLen, storeHM, loadHM, look1, idxAddr, arrAddr, cellsOf, TD.agg, loadedL, loaded, borrowed, isOwn, fieldR, partHM, absorbL, absorb1, setAt, killAV, killL, leafV, getR, isNil, nilV, Array.toList, List.map, bne_self_eq_false, reduceIte, reduceCtorEq, Nat.reduceEqDiff, Nat.reduceAdd, Nat.reduceMul, Nat.reduceSub, Nat.reduceBEq, Nat.reduceLeDiff, Int.reduceEq, Int.reduceLT, Int.reduceLE, Int.reduceGE, Int.reduceGT, Int.reduceBEq, Int.reduceBNe, Int.reduceToNat, Int.reduceNeg, Int.reduceSub, Int.reduceAdd, Int.reduceMul, rr, h] <;> simp only [vv, ff, firstRegion, apartAll, clash, meets, execOp, evBox, opnd, builtinHM, bin, convHM, fillP, fieldsPlace, solid, inOrd, sliceHM, bound, zOK, appendHM, srcCells, borL, isSl, slLen, storeHM, loadHM, look1, idxAddr, arrAddr, cellsOf, TD.agg, loadedL, loaded, borrowed, isOwn, fieldR, partHM, absorbL, absorb1, setAt, killAV, killL, leafV, getR, isNil, nilV, Array.toList, List.map, bne_self_eq_false, reduceIte, reduceCtorEq, Nat.reduceEqDiff, Nat.reduceAdd, Nat.reduceMul, Nat.reduceSub, Nat.reduceBEq, Nat.reduceLeDiff, Int.reduceEq, Int.reduceLT, Int.reduceLE, Int.reduceGE, Int.reduceGT, Int.reduceBEq, Int.reduceBNe, Int.reduceToNat, Int.reduceNeg, Int.reduceSub, Int.reduceAdd, Int.reduceMul, finish, wkAV, resOf, resa, noSnap, noSnapL, noSnapO, keep, liveKeys, keysL, keysAV, renAV, renL, rr]
theorem e37 (d : Nat) (x : Int) : evFun E (d+2) 37 [vi x] [] = some (vb (decide (x ≥ 0) && decide (x ≤ 1152921504606846975)), []) := by
  refine evFun_body b37 ?_
  simp only [vv, cc, firstRegion, apartAll, clash, meets, execOp, evBox, opnd, builtinHM, bin, convHM, fillP, fieldsPlace, solid, inOrd, sliceHM, bound, zOK, appendHM, srcCells, borL, isSl, slLen, storeHM, loadHM, look1, idxAddr, arrAddr, cellsOf, TD.agg, loadedL, loaded, borrowed, isOwn, fieldR, partHM, absorbL, absorb1, setAt, killAV, killL, leafV, getR, isNil, nilV, Array.toList, List.map, bne_self_eq_false, reduceIte, reduceCtorEq, Nat.reduceEqDiff, Nat.reduceAdd, Nat.reduceMul, Nat.reduceSub, Nat.reduceBEq, Nat.reduceLeDiff, Int.reduceEq, Int.reduceLT, Int.reduceLE, Int.reduceGE, Int.reduceGT, Int.reduceBEq, Int.reduceBNe, Int.reduceToNat, Int.reduceNeg, Int.reduceSub, Int.reduceAdd, Int.reduceMul, callHM, callOld, isSub, isPathRef, isValA, lendHead, subHM, subCall, plainRow, packA, packL, pack1, lendP, lentOk, getLent, putBack, backK, renAV, renL, rr, Try.f37, e34]
  simp only [vv, ff, firstRegion, apartAll, clash, meets, execOp, evBox, opnd, builtinHM, bin, convHM, fillP, fieldsPlace, solid, inOrd, sliceHM, bound, zOK, appendHM, srcCells, borL, isSl, slLen, storeHM, loadHM, look1, idxAddr, arrAddr, cellsOf, TD.agg, loadedL, loaded, borrowed, isOwn, fieldR, partHM, absorbL, absorb1, setAt, killAV, killL, leafV, getR, isNil, nilV, Array.toList, List.map, bne_self_eq_false, reduceIte, reduceCtorEq, Nat.reduceEqDiff, Nat.reduceAdd, Nat.reduceMul, Nat.reduceSub, Nat.reduceBEq, Nat.reduceLeDiff, Int.reduceEq, Int.reduceLT, Int.reduceLE, Int.reduceGE, Int.reduceGT, Int.reduceBEq, Int.reduceBNe, Int.reduceToNat, Int.reduceNeg, Int.reduceSub, Int.reduceAdd, Int.reduceMul, finish, wkAV, resOf, resa, noSnap, noSnapL, noSnapO, keep, liveKeys, keysL, keysAV, renAV, renL, rr]
theorem e38 (d : Nat) (x : Int) : evFun E (d+2) 38 [vi x] [] = some (vb (decide (x ≥ 0) && decide (x ≤ 1000000)), []) := by
  refine evFun_body b38 ?_
  simp only [vv, cc, firstRegion, apartAll, clash, meets, execOp, evBox, opnd, builtinHM, bin, convHM, fillP, fieldsPlace, solid, inOrd, sliceHM, bound, zOK, appendHM, srcCells, borL, isSl, slLen, storeHM, loadHM, look1, idxAddr, arrAddr, cellsOf, TD.agg, loadedL, loaded, borrowed, isOwn, fieldR, partHM, absorbL, absorb1, setAt, killAV, killL, leafV, getR, isNil, nilV, Array.toList, List.map, bne_self_eq_false, reduceIte, reduceCtorEq, Nat.reduceEqDiff, Nat.reduceAdd, Nat.reduceMul, Nat.reduceSub, Nat.reduceBEq, Nat.reduceLeDiff, Int.reduceEq, Int.reduceLT, Int.reduceLE, Int.reduceGE, Int.reduceGT, Int.reduceBEq, Int.reduceBNe, Int.reduceToNat, Int.reduceNeg, Int.reduceSub, Int.reduceAdd, Int.reduceMul, callHM, callOld, isSub, isPathRef, isValA, lendHead, subHM, subCall, plainRow, packA, packL, pack1, lendP, lentOk, getLent, putBack, backK, renAV, renL, rr, Try.f38, e34]
  simp only [vv, ff, firstRegion, apartAll, clash, meets, execOp, evBox, opnd, builtinHM, bin, convHM, fillP, fieldsPlace, solid, inOrd, sliceHM, bound, zOK, appendHM, srcCells, borL, isSl, slLen, storeHM, loadHM, look1, idxAddr, arrAddr, cellsOf, TD.agg, loadedL, loaded, borrowed, isOwn, fieldR, partHM, absorbL, absorb1, setAt, killAV, killL, leafV, getR, isNil, nilV, Array.toList, List.map, bne_self_eq_false, reduceIte, reduceCtorEq, Nat.reduceEqDiff, Nat.reduceAdd, Nat.reduceMul, Nat.reduceSub, Nat.reduceBEq, Nat.reduceLeDiff, Int.reduceEq, Int.reduceLT, Int.reduceLE, Int.reduceGE, Int.reduceGT, Int.reduceBEq, Int.reduceBNe, Int.reduceToNat, Int.reduceNeg, Int.reduceSub, Int.reduceAdd, Int.reduceMul, finish, wkAV, resOf, resa, noSnap, noSnapL, noSnapO, keep, liveKeys, keysL, keysAV, renAV, renL, rr]
theorem e36 (d : Nat) (x : Int) : evFun E (d+3) 36 [vi x] [] = some (vb (!(decide (x ≥ 0) && decide (x ≤ 1152921504606846975))), []) := by
  refine evFun_body b36 ?_
  simp only [vv, cc, firstRegion, apartAll, clash, meets, execOp, evBox, opnd, builtinHM, bin, convHM, fillP, fieldsPlace, solid, inOrd, sliceHM, bound, zOK, appendHM, srcCells, borL, isSl, slLen, storeHM, loadHM, look1, idxAddr, arrAddr, cellsOf, TD.agg, loadedL, loaded, borrowed, isOwn, fieldR, partHM, absorbL, absorb1, setAt, killAV, killL, leafV, getR, isNil, nilV, Array.toList, List.map, bne_self_eq_false, reduceIte, reduceCtorEq, Nat.reduceEqDiff, Nat.reduceAdd, Nat.reduceMul, Nat.reduceSub, Nat.reduceBEq, Nat.reduceLeDiff, Int.reduceEq, Int.reduceLT, Int.reduceLE, Int.reduceGE, Int.reduceGT, Int.reduceBEq, Int.reduceBNe, Int.reduceToNat, Int.reduceNeg, Int.reduceSub, Int.reduceAdd, Int.reduceMul, callHM, callOld, isSub, isPathRef, isValA, lendHead, subHM, subCall, plainRow, packA, packL, pack1, lendP, lentOk, getLent, putBack, backK, renAV, renL, rr, Try.f36, e37]
  simp only [vv, ff, firstRegion, apartAll, clash, meets, execOp, evBox, opnd, builtinHM, bin, convHM, fillP, fieldsPlace, solid, inOrd, sliceHM, bound, zOK, appendHM, srcCells, borL, isSl, slLen, storeHM, loadHM, look1, idxAddr, arrAddr, cellsOf, TD.agg, loadedL, loaded, borrowed, isOwn, fieldR, partHM, absorbL, absorb1, setAt, killAV, killL, leafV, getR, isNil, nilV, Array.toList, List.map, bne_self_eq_false, reduceIte, reduceCtorEq, Nat.reduceEqDiff, Nat.reduceAdd, Nat.reduceMul, Nat.reduceSub, Nat.reduceBEq, Nat.reduceLeDiff, Int.reduceEq, Int.reduceLT, Int.reduceLE, Int.reduceGE, Int.reduceGT, Int.reduceBEq, Int.reduceBNe, Int.reduceToNat, Int.reduceNeg, Int.reduceSub, Int.reduceAdd, Int.reduceMul, finish, wkAV, resOf, resa, noSnap, noSnapL, noSnapO, keep, liveKeys, keysL, keysAV, renAV, renL, rr]
theorem e30 (d : Nat) (tg : Tg) (cap : Option Nat) (n : Nat) (cs : List AV) (left : Int) (hw : IntKind.i64.wrap (left - (n : Int)) = left - n) : evFun E (d+1) 30 [.sl tg 1 n cap cs, vi left] [] = some (vi (if left - n < 0 then -1 else left - n), []) := by
  refine evFun_body b30 ?_
  simp only [vv, firstRegion, apartAll, clash, meets, execOp, evBox, opnd, builtinHM, bin, convHM, fillP, fieldsPlace, solid, inOrd, sliceHM, bound, zOK, appendHM, srcCells, borL, isSl, slLen, storeHM, loadHM, look1, idxAddr, arrAddr, cellsOf, TD.agg, loadedL, loaded, borrowed, isOwn, fieldR, partHM, absorbL, absorb1, setAt, killAV, killL, leafV, getR, isNil, nilV, Array.toList, List.map, bne_self_eq_false, reduceIte, reduceCtorEq, Nat.reduceEqDiff, Nat.reduceAdd, Nat.reduceMul, Nat.reduceSub, Nat.reduceBEq, Nat.reduceLeDiff, Int.reduceEq, Int.reduceLT, Int.reduceLE, Int.reduceGE, Int.reduceGT, Int.reduceBEq, Int.reduceBNe, Int.reduceToNat, Int.reduceNeg, Int.reduceSub, Int.reduceAdd, Int.reduceMul, rr, Try.f30, hw]
  refine evIf_elim (fun h => ?_) (fun h => ?_) <;> simp only [vv, firstRegion, apartAll, clash, meets, execOp, evBox, opnd, builtinHM, bin, convHM, fillP, fieldsPlace, solid, inOrd, sliceHM, bound, zOK, appendHM, srcCells, borL, isSl, slLen, storeHM, loadHM, look1, idxAddr, arrAddr, cellsOf, TD.agg, loadedL, loaded, borrowed, isOwn, fieldR, partHM, absorbL, absorb1, setAt, killAV, killL, leafV, getR, isNil, nilV, Array.toList, List.map, bne_self_eq_false, reduceIte, reduceCtorEq, Nat.reduceEqDiff, Nat.reduceAdd, Nat.reduceMul, Nat.reduceSub, Nat.reduceBEq, Nat.reduceLeDiff, Int.reduceEq, Int.reduceLT, Int.reduceLE, Int.reduceGE, Int.reduceGT, Int.reduceBEq, Int.reduceBNe, Int.reduceToNat, Int.reduceNeg, Int.reduceSub, Int.reduceAdd, Int.reduceMul, rr, h] <;> simp only [vv, ff, firstRegion, apartAll, clash, meets, execOp, evBox, opnd, builtinHM, bin, convHM, fillP, fieldsPlace, solid, inOrd, sliceHM, bound, zOK, appendHM, srcCells, borL, isSl, slLen, storeHM, loadHM, look1, idxAddr, arrAddr, cellsOf, TD.agg, loadedL, loaded, borrowed, isOwn, fieldR, partHM, absorbL, absorb1, setAt, killAV, killL, leafV, getR, isNil, nilV, Array.toList, List.map, bne_self_eq_false, reduceIte, reduceCtorEq, Nat.reduceEqDiff, Nat.reduceAdd, Nat.reduceMul, Nat.reduceSub, Nat.reduceBEq, Nat.reduceLeDiff, Int.reduceEq, Int.reduceLT, Int.reduceLE, Int.reduceGE, Int.reduceGT, Int.reduceBEq, Int.reduceBNe, Int.reduceToNat, Int.reduceNeg, Int.reduceSub, Int.reduceAdd, Int.reduceMul, finish, wkAV, resOf, resa, noSnap, noSnapL, noSnapO, keep, liveKeys, keysL, keysAV, renAV, renL, rr]
  · rw [if_pos (of_decide_eq_true h)]
  · rw [if_neg (of_decide_eq_false h)]
theorem e31 (d : Nat) (tg : Tg) (cap : Option Nat) (n : Nat) (cs : List AV) (left : Int) (hw : IntKind.i64.wrap (left - (n : Int)) = left - n) : evFun E (d+1) 31 [.sl tg 1 n cap cs, vi left] [] = some (vi (if left - n < 0 then -1 else left - n), []) := by
  refine evFun_body b31 ?_
  simp only [vv, firstRegion, apartAll, clash, meets, execOp, evBox, opnd, builtinHM, bin, convHM, fillP, fieldsPlace, solid, inOrd, sliceHM, bound, zOK, appendHM, srcCells, borL, isSl, slLen, storeHM, loadHM, look1, idxAddr, arrAddr, cellsOf, TD.agg, loadedL, loaded, borrowed, isOwn, fieldR, partHM, absorbL, absorb1, setAt, killAV, killL, leafV, getR, isNil, nilV, Array.toList, List.map, bne_self_eq_false, reduceIte, reduceCtorEq, Nat.reduceEqDiff, Nat.reduceAdd, Nat.reduceMul, Nat.reduceSub, Nat.reduceBEq, Nat.reduceLeDiff, Int.reduceEq, Int.reduceLT, Int.reduceLE, Int.reduceGE, Int.reduceGT, Int.reduceBEq, Int.reduceBNe, Int.reduceToNat, Int.reduceNeg, Int.reduceSub, Int.reduceAdd, Int.reduceMul, rr, Try.f31, hw]
  refine evIf_elim (fun h => ?_) (fun h => ?_) <;> simp only [vv, firstRegion, apartAll, clash, meets, execOp, evBox, opnd, builtinHM, bin, convHM, fillP, fieldsPlace, solid, inOrd, sliceHM, bound, zOK, appendHM, srcCells, borL, isSl, slLen, storeHM, loadHM, look1, idxAddr, arrAddr, cellsOf, TD.agg, loadedL, loaded, borrowed, isOwn, fieldR, partHM, absorbL, absorb1, setAt, killAV, killL, leafV, getR, isNil, nilV, Array.toList, List.map, bne_self_eq_false, reduceIte, reduceCtorEq, Nat.reduceEqDiff, Nat.reduceAdd, Nat.reduceMul, Nat.reduceSub, Nat.reduceBEq, Nat.reduceLeDiff, Int.reduceEq, Int.reduceLT, Int.reduceLE, Int.reduceGE, Int.reduceGT, Int.reduceBEq, Int.reduceBNe, Int.reduceToNat, Int.reduceNeg, Int.reduceSub, Int.reduceAdd, Int.reduceMul, rr, h] <;> simp only [vv, ff, firstRegion, apartAll, clash, meets, execOp, evBox, opnd, builtinHM, bin, convHM, fillP, fieldsPlace, solid, inOrd, sliceHM, bound, zOK, appendHM, srcCells, borL, isSl, slLen, storeHM, loadHM, look1, idxAddr, arrAddr, cellsOf, TD.agg, loadedL, loaded, borrowed, isOwn, fieldR, partHM, absorbL, absorb1, setAt, killAV, killL, leafV, getR, isNil, nilV, Array.toList, List.map, bne_self_eq_false, reduceIte, reduceCtorEq, Nat.reduceEqDiff, Nat.reduceAdd, Nat.reduceMul, Nat.reduceSub, Nat.reduceBEq, Nat.reduceLeDiff, Int.reduceEq, Int.reduceLT, Int.reduceLE, Int.reduceGE, Int.reduceGT, Int.reduceBEq, Int.reduceBNe, Int.reduceToNat, Int.reduceNeg, Int.reduceSub, Int.reduceAdd, Int.reduceMul, finish, wkAV, resOf, resa, noSnap, noSnapL, noSnapO, keep, liveKeys, keysL, keysAV, renAV, renL, rr]
  · rw [if_pos (of_decide_eq_true h)]
  · rw [if_neg (of_decide_eq_false h)]
theorem e22 (d : Nat) (tg : Tg) (cap : Option Nat) (l : List Int) (hl : l.length ≤ 2 ^ 39) : evFun E (d+1) 22 [.sl tg 1 l.length cap (l.map (iv .u8))] [] = some (.ref 0 [] 1 0 l.length (some l.length), [some (l.map (iv .u8))]) := by
  refine evFun_body b22 ?_
  simp only [vv, firstRegion, apartAll, clash, meets, execOp, evBox, opnd, builtinHM, bin, convHM, fillP, fieldsPlace, solid, inOrd, sliceHM, bound, zOK, appendHM, srcCells, borL, isSl, slLen, storeHM, loadHM, look1, idxAddr, arrAddr, cellsOf, TD.agg, loadedL, loaded, borrowed, isOwn, fieldR, partHM, absorbL, absorb1, setAt, killAV, killL, leafV, getR, isNil, nilV, Array.toList, List.map, bne_self_eq_false, reduceIte, reduceCtorEq, Nat.reduceEqDiff, Nat.reduceAdd, Nat.reduceMul, Nat.reduceSub, Nat.reduceBEq, Nat.reduceLeDiff, Int.reduceEq, Int.reduceLT, Int.reduceLE, Int.reduceGE, Int.reduceGT, Int.reduceBEq, Int.reduceBNe, Int.reduceToNat, Int.reduceNeg, Int.reduceSub, Int.reduceAdd, Int.reduceMul, rr, Try.f22, lim_le hl]
  refine loop_go (fun i => {T := tp [(0, .sl tg 1 l.length cap (l.map (iv .u8))), (3, .ref 0 [] 1 0 l.length (some l.length)), (4, vi i)], H := hp [some (part .u8 l i)], nx := 1}) l.length ?_ (lt_LF hl) (fun i hi Kn hK => ?_) (fun Kn => ?_)
  · simp only [vv, ff, norm, Array.toList, List.map, bne_self_eq_false, reduceIte, reduceCtorEq, Nat.reduceEqDiff, Nat.reduceAdd, Nat.reduceMul, Nat.reduceSub, Nat.reduceBEq, Nat.reduceLeDiff, Int.reduceEq, Int.reduceLT, Int.reduceLE, Int.reduceGE, Int.reduceGT, Int.reduceBEq, Int.reduceBNe, Int.reduceToNat, Int.reduceNeg, Int.reduceSub, Int.reduceAdd, Int.reduceMul, finish, wkAV, resOf, resa, noSnap, noSnapL, noSnapO, keep, liveKeys, keysL, keysAV, renAV, renL, zeros_one, part_zero, Int.natCast_zero]
  · simp only [vv, firstRegion, apartAll, clash, meets, execOp, evBox, opnd, builtinHM, bin, convHM, fillP, fieldsPlace, solid, inOrd, sliceHM, bound, zOK, appendHM, srcCells, borL, isSl, slLen, storeHM, loadHM, look1, idxAddr, arrAddr, cellsOf, TD.agg, loadedL, loaded, borrowed, isOwn, fieldR, partHM, absorbL, absorb1, setAt, killAV, killL, leafV, getR, isNil, nilV, Array.toList, List.map, bne_self_eq_false, reduceIte, reduceCtorEq, Nat.reduceEqDiff, Nat.reduceAdd, Nat.reduceMul, Nat.reduceSub, Nat.reduceBEq, Nat.reduceLeDiff, Int.reduceEq, Int.reduceLT, Int.reduceLE, Int.reduceGE, Int.reduceGT, Int.reduceBEq, Int.reduceBNe, Int.reduceToNat, Int.reduceNeg, Int.reduceSub, Int.reduceAdd, Int.reduceMul, rr, lt_ok hi, succ_le hi, map_get hi, part_len, part_set _ _ hi, wrap_succ hi hl]
    refine hK _ ?_
    simp only [vv, ff, norm, Array.toList, List.map, bne_self_eq_false, reduceIte, reduceCtorEq, Nat.reduceEqDiff, Nat.reduceAdd, Nat.reduceMul, Nat.reduceSub, Nat.reduceBEq, Nat.reduceLeDiff, Int.reduceEq, Int.reduceLT, Int.reduceLE, Int.reduceGE, Int.reduceGT, Int.reduceBEq, Int.reduceBNe, Int.reduceToNat, Int.reduceNeg, Int.reduceSub, Int.reduceAdd, Int.reduceMul, finish, wkAV, resOf, resa, noSnap, noSnapL, noSnapO, keep, liveKeys, keysL, keysAV, renAV, renL]
  · simp only [vv, firstRegion, apartAll, clash, meets, execOp, evBox, opnd, builtinHM, bin, convHM, fillP, fieldsPlace, solid, inOrd, sliceHM, bound, zOK, appendHM, srcCells, borL, isSl, slLen, storeHM, loadHM, look1, idxAddr, arrAddr, cellsOf, TD.agg, loadedL, loaded, borrowed, isOwn, fieldR, partHM, absorbL, absorb1, setAt, killAV, killL, leafV, getR, isNil, nilV, Array.toList, List.map, bne_self_eq_false, reduceIte, reduceCtorEq, Nat.reduceEqDiff, Nat.reduceAdd, Nat.reduceMul, Nat.reduceSub, Nat.reduceBEq, Nat.reduceLeDiff, Int.reduceEq, Int.reduceLT, Int.reduceLE, Int.reduceGE, Int.reduceGT, Int.reduceBEq, Int.reduceBNe, Int.reduceToNat, Int.reduceNeg, Int.reduceSub, Int.reduceAdd, Int.reduceMul, rr, lt_no]
    simp only [vv, ff, firstRegion, apartAll, clash, meets, execOp, evBox, opnd, builtinHM, bin, convHM, fillP, fieldsPlace, solid, inOrd, sliceHM, bound, zOK, appendHM, srcCells, borL, isSl, slLen, storeHM, loadHM, look1, idxAddr, arrAddr, cellsOf, TD.agg, loadedL, loaded, borrowed, isOwn, fieldR, partHM, absorbL, absorb1, setAt, killAV, killL, leafV, getR, isNil, nilV, Array.toList, List.map, bne_self_eq_false, reduceIte, reduceCtorEq, Nat.reduceEqDiff, Nat.reduceAdd, Nat.reduceMul, Nat.reduceSub, Nat.reduceBEq, Nat.reduceLeDiff, Int.reduceEq, Int.reduceLT, Int.reduceLE, Int.reduceGE, Int.reduceGT, Int.reduceBEq, Int.reduceBNe, Int.reduceToNat, Int.reduceNeg, Int.reduceSub, Int.reduceAdd, Int.reduceMul, finish, wkAV, resOf, resa, noSnap, noSnapL, noSnapO, keep, liveKeys, keysL, keysAV, renAV, renL, rr, part_full]
theorem e33 (d : Nat) (tg : Tg) (cap : Option Nat) (l : List Int) (hl : l.length ≤ 2 ^ 39) : evFun E (d+1) 33 [.sl tg 1 l.length cap (l.map vi)] [] = some (.ref 0 [] 1 0 l.length (some l.length), [some (l.map vi)]) := by
  refine evFun_body b33 ?_
  simp only [vv, firstRegion, apartAll, clash, meets, execOp, evBox, opnd, builtinHM, bin, convHM, fillP, fieldsPlace, solid, inOrd, sliceHM, bound, zOK, appendHM, srcCells, borL, isSl, slLen, storeHM, loadHM, look1, idxAddr, arrAddr, cellsOf, TD.agg, loadedL, loaded, borrowed, isOwn, fieldR, partHM, absorbL, absorb1, setAt, killAV, killL, leafV, getR, isNil, nilV, Array.toList, List.map, bne_self_eq_false, reduceIte, reduceCtorEq, Nat.reduceEqDiff, Nat.reduceAdd, Nat.reduceMul, Nat.reduceSub, Nat.reduceBEq, Nat.reduceLeDiff, Int.reduceEq, Int.reduceLT, Int.reduceLE, Int.reduceGE, Int.reduceGT, Int.reduceBEq, Int.reduceBNe, Int.reduceToNat, Int.reduceNeg, Int.reduceSub, Int.reduceAdd, Int.reduceMul, rr, Try.f33, lim_le hl]
  refine loop_go (fun i => {T := tp [(0, .sl tg 1 l.length cap (l.map (iv .i64))), (3, .ref 0 [] 1 0 l.length (some l.length)), (4, vi i)], H := hp [some (part .i64 l i)], nx := 1}) l.length ?_ (lt_LF hl) (fun i hi Kn hK => ?_) (fun Kn => ?_)
  · simp only [vv, ff, norm, Array.toList, List.map, bne_self_eq_false, reduceIte, reduceCtorEq, Nat.reduceEqDiff, Nat.reduceAdd, Nat.reduceMul, Nat.reduceSub, Nat.reduceBEq, Nat.reduceLeDiff, Int.reduceEq, Int.reduceLT, Int.reduceLE, Int.reduceGE, Int.reduceGT, Int.reduceBEq, Int.reduceBNe, Int.reduceToNat, Int.reduceNeg, Int.reduceSub, Int.reduceAdd, Int.reduceMul, finish, wkAV, resOf, resa, noSnap, noSnapL, noSnapO, keep, liveKeys, keysL, keysAV, renAV, renL, zeros_one, part_zero, Int.natCast_zero]
  · simp only [vv, firstRegion, apartAll, clash, meets, execOp, evBox, opnd, builtinHM, bin, convHM, fillP, fieldsPlace, solid, inOrd, sliceHM, bound, zOK, appendHM, srcCells, borL, isSl, slLen, storeHM, loadHM, look1, idxAddr, arrAddr, cellsOf, TD.agg, loadedL, loaded, borrowed, isOwn, fieldR, partHM, absorbL, absorb1, setAt, killAV, killL, leafV, getR, isNil, nilV, Array.toList, List.map, bne_self_eq_false, reduceIte, reduceCtorEq, Nat.reduceEqDiff, Nat.reduceAdd, Nat.reduceMul, Nat.reduceSub, Nat.reduceBEq, Nat.reduceLeDiff, Int.reduceEq, Int.reduceLT, Int.reduceLE, Int.reduceGE, Int.reduceGT, Int.reduceBEq, Int.reduceBNe, Int.reduceToNat, Int.reduceNeg, Int.reduceSub, Int.reduceAdd, Int.reduceMul, rr, lt_ok hi, succ_le hi, map_get hi, part_len, part_set _ _ hi, wrap_succ hi hl]
    refine hK _ ?_
    simp only [vv, ff, norm, Array.toList, List.map, bne_self_eq_false, reduceIte, reduceCtorEq, Nat.reduceEqDiff, Nat.reduceAdd, Nat.reduceMul, Nat.reduceSub, Nat.reduceBEq, Nat.reduceLeDiff, Int.reduceEq, Int.reduceLT, Int.reduceLE, Int.reduceGE, Int.reduceGT, Int.reduceBEq, Int.reduceBNe, Int.reduceToNat, Int.reduceNeg, Int.reduceSub, Int.reduceAdd, Int.reduceMul, finish, wkAV, resOf, resa, noSnap, noSnapL, noSnapO, keep, liveKeys, keysL, keysAV, renAV, renL]
  · simp only [vv, firstRegion, apartAll, clash, meets, execOp, evBox, opnd, builtinHM, bin, convHM, fillP, fieldsPlace, solid, inOrd, sliceHM, bound, zOK, appendHM, srcCells, borL, isSl, slLen, storeHM, loadHM, look1, idxAddr, arrAddr, cellsOf, TD.agg, loadedL, loaded, borrowed, isOwn, fieldR, partHM, absorbL, absorb1, setAt, killAV, killL, leafV, getR, isNil, nilV, Array.toList, List.map, bne_self_eq_false, reduceIte, reduceCtorEq, Nat.reduceEqDiff, Nat.reduceAdd, Nat.reduceMul, Nat.reduceSub, Nat.reduceBEq, Nat.reduceLeDiff, Int.reduceEq, Int.reduceLT, Int.reduceLE, Int.reduceGE, Int.reduceGT, Int.reduceBEq, Int.reduceBNe, Int.reduceToNat, Int.reduceNeg, Int.reduceSub, Int.reduceAdd, Int.reduceMul, rr, lt_no]
    simp only [vv, ff, firstRegion, apartAll, clash, meets, execOp, evBox, opnd, builtinHM, bin, convHM, fillP, fieldsPlace, solid, inOrd, sliceHM, bound, zOK, appendHM, srcCells, borL, isSl, slLen, storeHM, loadHM, look1, idxAddr, arrAddr, cellsOf, TD.agg, loadedL, loaded, borrowed, isOwn, fieldR, partHM, absorbL, absorb1, setAt, killAV, killL, leafV, getR, isNil, nilV, Array.toList, List.map, bne_self_eq_false, reduceIte, reduceCtorEq, Nat.reduceEqDiff, Nat.reduceAdd, Nat.reduceMul, Nat.reduceSub, Nat.reduceBEq, Nat.reduceLeDiff, Int.reduceEq, Int.reduceLT, Int.reduceLE, Int.reduceGE, Int.reduceGT, Int.reduceBEq, Int.reduceBNe, Int.reduceToNat, Int.reduceNeg, Int.reduceSub, Int.reduceAdd, Int.reduceMul, finish, wkAV, resOf, resa, noSnap, noSnapL, noSnapO, keep, liveKeys, keysL, keysAV, renAV, renL, rr, part_full]

theorem e16 (d : Nat) (tg tg' : Tg) (cap cap' : Option Nat) (a b : List Int) (hl : a.length ≤ 2 ^ 39) : evFun E (d+1) 16 [.sl tg 1 a.length cap (a.map (iv .u8)), .sl tg' 1 b.length cap' (b.map (iv .u8))] [] = some (vb (decide (a = b)), []) := by
  refine evFun_body b16 ?_
  simp only [vv, firstRegion, apartAll, clash, meets, execOp, evBox, opnd, builtinHM, bin, convHM, fillP, fieldsPlace, solid, inOrd, sliceHM, bound, zOK, appendHM, srcCells, borL, isSl, slLen, storeHM, loadHM, look1, idxAddr, arrAddr, cellsOf, TD.agg, loadedL, loaded, borrowed, isOwn, fieldR, partHM, absorbL, absorb1, setAt, killAV, killL, leafV, getR, isNil, nilV, Array.toList, List.map, bne_self_eq_false, reduceIte, reduceCtorEq, Nat.reduceEqDiff, Nat.reduceAdd, Nat.reduceMul, Nat.reduceSub, Nat.reduceBEq, Nat.reduceLeDiff, Int.reduceEq, Int.reduceLT, Int.reduceLE, Int.reduceGE, Int.reduceGT, Int.reduceBEq, Int.reduceBNe, Int.reduceToNat, Int.reduceNeg, Int.reduceSub, Int.reduceAdd, Int.reduceMul, rr, Try.f16]
  refine evIf_elim (fun h => ?_) (fun h => ?_)
  · simp only [vv, firstRegion, apartAll, clash, meets, execOp, evBox, opnd, builtinHM, bin, convHM, fillP, fieldsPlace, solid, inOrd, sliceHM, bound, zOK, appendHM, srcCells, borL, isSl, slLen, storeHM, loadHM, look1, idxAddr, arrAddr, cellsOf, TD.agg, loadedL, loaded, borrowed, isOwn, fieldR, partHM, absorbL, absorb1, setAt, killAV, killL, leafV, getR, isNil, nilV, Array.toList, List.map, bne_self_eq_false, reduceIte, reduceCtorEq, Nat.reduceEqDiff, Nat.reduceAdd, Nat.reduceMul, Nat.reduceSub, Nat.reduceBEq, Nat.reduceLeDiff, Int.reduceEq, Int.reduceLT, Int.reduceLE, Int.reduceGE, Int.reduceGT, Int.reduceBEq, Int.reduceBNe, Int.reduceToNat, Int.reduceNeg, Int.reduceSub, Int.reduceAdd, Int.reduceMul, rr, h]
    simp only [vv, ff, firstRegion, apartAll, clash, meets, execOp, evBox, opnd, builtinHM, bin, convHM, fillP, fieldsPlace, solid, inOrd, sliceHM, bound, zOK, appendHM, srcCells, borL, isSl, slLen, storeHM, loadHM, look1, idxAddr, arrAddr, cellsOf, TD.agg, loadedL, loaded, borrowed, isOwn, fieldR, partHM, absorbL, absorb1, setAt, killAV, killL, leafV, getR, isNil, nilV, Array.toList, List.map, bne_self_eq_false, reduceIte, reduceCtorEq, Nat.reduceEqDiff, Nat.reduceAdd, Nat.reduceMul, Nat.reduceSub, Nat.reduceBEq, Nat.reduceLeDiff, Int.reduceEq, Int.reduceLT, Int.reduceLE, Int.reduceGE, Int.reduceGT, Int.reduceBEq, Int.reduceBNe, Int.reduceToNat, Int.reduceNeg, Int.reduceSub, Int.reduceAdd, Int.reduceMul, finish, wkAV, resOf, resa, noSnap, noSnapL, noSnapO, keep, liveKeys, keysL, keysAV, renAV, renL, rr]
    have : a ≠ b := by intro e; subst e; simp at h
    simp [this]
  · have hab : a.length = b.length := by simp at h; omega
    simp only [vv, firstRegion, apartAll, clash, meets, execOp, evBox, opnd, builtinHM, bin, convHM, fillP, fieldsPlace, solid, inOrd, sliceHM, bound, zOK, appendHM, srcCells, borL, isSl, slLen, storeHM, loadHM, look1, idxAddr, arrAddr, cellsOf, TD.agg, loadedL, loaded, borrowed, isOwn, fieldR, partHM, absorbL, absorb1, setAt, killAV, killL, leafV, getR, isNil, nilV, Array.toList, List.map, bne_self_eq_false, reduceIte, reduceCtorEq, Nat.reduceEqDiff, Nat.reduceAdd, Nat.reduceMul, Nat.reduceSub, Nat.reduceBEq, Nat.reduceLeDiff, Int.reduceEq, Int.reduceLT, Int.reduceLE, Int.reduceGE, Int.reduceGT, Int.reduceBEq, Int.reduceBNe, Int.reduceToNat, Int.reduceNeg, Int.reduceSub, Int.reduceAdd, Int.reduceMul, rr, h]
    refine loop_inv (fun i => ∀ j, j < i → a[j]? = b[j]?) (fun i => {T := tp [(0, .sl tg 1 a.length cap (a.map (iv .u8))), (1, .sl tg' 1 b.length cap' (b.map (iv .u8))), (5, vi i)], H := hp [], nx := 0}) a.length ?_ (fun j h => by omega) (lt_LF hl) (fun i hi hI Kn hK => ?_) (fun hI Kn => ?_)
    · simp only [vv, ff, norm, Array.toList, List.map, bne_self_eq_false, reduceIte, reduceCtorEq, Nat.reduceEqDiff, Nat.reduceAdd, Nat.reduceMul, Nat.reduceSub, Nat.reduceBEq, Nat.reduceLeDiff, Int.reduceEq, Int.reduceLT, Int.reduceLE, Int.reduceGE, Int.reduceGT, Int.reduceBEq, Int.reduceBNe, Int.reduceToNat, Int.reduceNeg, Int.reduceSub, Int.reduceAdd, Int.reduceMul, finish, wkAV, resOf, resa, noSnap, noSnapL, noSnapO, keep, liveKeys, keysL, keysAV, renAV, renL, Int.natCast_zero]
    · have hib : i < b.length := by omega
      simp only [vv, firstRegion, apartAll, clash, meets, execOp, evBox, opnd, builtinHM, bin, convHM, fillP, fieldsPlace, solid, inOrd, sliceHM, bound, zOK, appendHM, srcCells, borL, isSl, slLen, storeHM, loadHM, look1, idxAddr, arrAddr, cellsOf, TD.agg, loadedL, loaded, borrowed, isOwn, fieldR, partHM, absorbL, absorb1, setAt, killAV, killL, leafV, getR, isNil, nilV, Array.toList, List.map, bne_self_eq_false, reduceIte, reduceCtorEq, Nat.reduceEqDiff, Nat.reduceAdd, Nat.reduceMul, Nat.reduceSub, Nat.reduceBEq, Nat.reduceLeDiff, Int.reduceEq, Int.reduceLT, Int.reduceLE, Int.reduceGE, Int.reduceGT, Int.reduceBEq, Int.reduceBNe, Int.reduceToNat, Int.reduceNeg, Int.reduceSub, Int.reduceAdd, Int.reduceMul, rr, lt_ok hi, lt_ok hib, map_get hi, map_get hib]
      refine evIf_elim (fun h => ?_) (fun h => ?_)
      · simp only [vv, firstRegion, apartAll, clash, meets, execOp, evBox, opnd, builtinHM, bin, convHM, fillP, fieldsPlace, solid, inOrd, sliceHM, bound, zOK, appendHM, srcCells, borL, isSl, slLen, storeHM, loadHM, look1, idxAddr, arrAddr, cellsOf, TD.agg, loadedL, loaded, borrowed, isOwn, fieldR, partHM, absorbL, absorb1, setAt, killAV, killL, leafV, getR, isNil, nilV, Array.toList, List.map, bne_self_eq_false, reduceIte, reduceCtorEq, Nat.reduceEqDiff, Nat.reduceAdd, Nat.reduceMul, Nat.reduceSub, Nat.reduceBEq, Nat.reduceLeDiff, Int.reduceEq, Int.reduceLT, Int.reduceLE, Int.reduceGE, Int.reduceGT, Int.reduceBEq, Int.reduceBNe, Int.reduceToNat, Int.reduceNeg, Int.reduceSub, Int.reduceAdd, Int.reduceMul, rr]
        simp only [vv, ff, firstRegion, apartAll, clash, meets, execOp, evBox, opnd, builtinHM, bin, convHM, fillP, fieldsPlace, solid, inOrd, sliceHM, bound, zOK, appendHM, srcCells, borL, isSl, slLen, storeHM, loadHM, look1, idxAddr, arrAddr, cellsOf, TD.agg, loadedL, loaded, borrowed, isOwn, fieldR, partHM, absorbL, absorb1, setAt, killAV, killL, leafV, getR, isNil, nilV, Array.toList, List.map, bne_self_eq_false, reduceIte, reduceCtorEq, Nat.reduceEqDiff, Nat.reduceAdd, Nat.reduceMul, Nat.reduceSub, Nat.reduceBEq, Nat.reduceLeDiff, Int.reduceEq, Int.reduceLT, Int.reduceLE, Int.reduceGE, Int.reduceGT, Int.reduceBEq, Int.reduceBNe, Int.reduceToNat, Int.reduceNeg, Int.reduceSub, Int.reduceAdd, Int.reduceMul, finish, wkAV, resOf, resa, noSnap, noSnapL, noSnapO, keep, liveKeys, keysL, keysAV, renAV, renL, rr]
        have : a ≠ b := by intro e; subst e; simp at h
        simp [this]
      · have hx : a[i] = b[i] := by simpa using h
        simp only [vv, firstRegion, apartAll, clash, meets, execOp, evBox, opnd, builtinHM, bin, convHM, fillP, fieldsPlace, solid, inOrd, sliceHM, bound, zOK, appendHM, srcCells, borL, isSl, slLen, storeHM, loadHM, look1, idxAddr, arrAddr, cellsOf, TD.agg, loadedL, loaded, borrowed, isOwn, fieldR, partHM, absorbL, absorb1, setAt, killAV, killL, leafV, getR, isNil, nilV, Array.toList, List.map, bne_self_eq_false, reduceIte, reduceCtorEq, Nat.reduceEqDiff, Nat.reduceAdd, Nat.reduceMul, Nat.reduceSub, Nat.reduceBEq, Nat.reduceLeDiff, Int.reduceEq, Int.reduceLT, Int.reduceLE, Int.reduceGE, Int.reduceGT, Int.reduceBEq, Int.reduceBNe, Int.reduceToNat, Int.reduceNeg, Int.reduceSub, Int.reduceAdd, Int.reduceMul, rr, wrap_succ hi hl]
        refine hK (fun j hj => ?_) _ ?_
        · by_cases e : j = i
          · subst e; rw [List.getElem?_eq_getElem hi, List.getElem?_eq_getElem hib, hx]
          · exact hI j (by omega)
        · simp only [vv, ff, norm, Array.toList, List.map, bne_self_eq_false, reduceIte, reduceCtorEq, Nat.reduceEqDiff, Nat.reduceAdd, Nat.reduceMul, Nat.reduceSub, Nat.reduceBEq, Nat.reduceLeDiff, Int.reduceEq, Int.reduceLT, Int.reduceLE, Int.reduceGE, Int.reduceGT, Int.reduceBEq, Int.reduceBNe, Int.reduceToNat, Int.reduceNeg, Int.reduceSub, Int.reduceAdd, Int.reduceMul, finish, wkAV, resOf, resa, noSnap, noSnapL, noSnapO, keep, liveKeys, keysL, keysAV, renAV, renL]
    · simp only [vv, firstRegion, apartAll, clash, meets, execOp, evBox, opnd, builtinHM, bin, convHM, fillP, fieldsPlace, solid, inOrd, sliceHM, bound, zOK, appendHM, srcCells, borL, isSl, slLen, storeHM, loadHM, look1, idxAddr, arrAddr, cellsOf, TD.agg, loadedL, loaded, borrowed, isOwn, fieldR, partHM, absorbL, absorb1, setAt, killAV, killL, leafV, getR, isNil, nilV, Array.toList, List.map, bne_self_eq_false, reduceIte, reduceCtorEq, Nat.reduceEqDiff, Nat.reduceAdd, Nat.reduceMul, Nat.reduceSub, Nat.reduceBEq, Nat.reduceLeDiff, Int.reduceEq, Int.reduceLT, Int.reduceLE, Int.reduceGE, Int.reduceGT, Int.reduceBEq, Int.reduceBNe, Int.reduceToNat, Int.reduceNeg, Int.reduceSub, Int.reduceAdd, Int.reduceMul, rr, lt_no]
      simp only [vv, ff, firstRegion, apartAll, clash, meets, execOp, evBox, opnd, builtinHM, bin, convHM, fillP, fieldsPlace, solid, inOrd, sliceHM, bound, zOK, appendHM, srcCells, borL, isSl, slLen, storeHM, loadHM, look1, idxAddr, arrAddr, cellsOf, TD.agg, loadedL, loaded, borrowed, isOwn, fieldR, partHM, absorbL, absorb1, setAt, killAV, killL, leafV, getR, isNil, nilV, Array.toList, List.map, bne_self_eq_false, reduceIte, reduceCtorEq, Nat.reduceEqDiff, Nat.reduceAdd, Nat.reduceMul, Nat.reduceSub, Nat.reduceBEq, Nat.reduceLeDiff, Int.reduceEq, Int.reduceLT, Int.reduceLE, Int.reduceGE, Int.reduceGT, Int.reduceBEq, Int.reduceBNe, Int.reduceToNat, Int.reduceNeg, Int.reduceSub, Int.reduceAdd, Int.reduceMul, finish, wkAV, resOf, resa, noSnap, noSnapL, noSnapO, keep, liveKeys, keysL, keysAV, renAV, renL, rr]
      have : a = b := List.ext_getElem? fun j => by
        by_cases hj : j < a.length
        · exact hI j hj
        · rw [List.getElem?_eq_none (by omega), List.getElem?_eq_none (by omega)]
      simp [this]
theorem e39 (d : Nat) (tg tg' : Tg) (cap cap' : Option Nat) (a b : List Int) (hl : a.length ≤ 2 ^ 39) : evFun E (d+1) 39 [.sl tg 1 a.length cap (a.map (iv .i64)), .sl tg' 1 b.length cap' (b.map (iv .i64))] [] = some (vb (decide (a = b)), []) := by
  refine evFun_body b39 ?_
  simp only [vv, firstRegion, apartAll, clash, meets, execOp, evBox, opnd, builtinHM, bin, convHM, fillP, fieldsPlace, solid, inOrd, sliceHM, bound, zOK, appendHM, srcCells, borL, isSl, slLen, storeHM, loadHM, look1, idxAddr, arrAddr, cellsOf, TD.agg, loadedL, loaded, borrowed, isOwn, fieldR, partHM, absorbL, absorb1, setAt, killAV, killL, leafV, getR, isNil, nilV, Array.toList, List.map, bne_self_eq_false, reduceIte, reduceCtorEq, Nat.reduceEqDiff, Nat.reduceAdd, Nat.reduceMul, Nat.reduceSub, Nat.reduceBEq, Nat.reduceLeDiff, Int.reduceEq, Int.reduceLT, Int.reduceLE, Int.reduceGE, Int.reduceGT, Int.reduceBEq, Int.reduceBNe, Int.reduceToNat, Int.reduceNeg, Int.reduceSub, Int.reduceAdd, Int.reduceMul, rr, Try.f39]
  refine evIf_elim (fun h => ?_) (fun h => ?_)
  · simp only [vv, firstRegion, apartAll, clash, meets, execOp, evBox, opnd, builtinHM, bin, convHM, fillP, fieldsPlace, solid, inOrd, sliceHM, bound, zOK, appendHM, srcCells, borL, isSl, slLen, storeHM, loadHM, look1, idxAddr, arrAddr, cellsOf, TD.agg, loadedL, loaded, borrowed, isOwn, fieldR, partHM, absorbL, absorb1, setAt, killAV, killL, leafV, getR, isNil, nilV, Array.toList, List.map, bne_self_eq_false, reduceIte, reduceCtorEq, Nat.reduceEqDiff, Nat.reduceAdd, Nat.reduceMul, Nat.reduceSub, Nat.reduceBEq, Nat.reduceLeDiff, Int.reduceEq, Int.reduceLT, Int.reduceLE, Int.reduceGE, Int.reduceGT, Int.reduceBEq, Int.reduceBNe, Int.reduceToNat, Int.reduceNeg, Int.reduceSub, Int.reduceAdd, Int.reduceMul, rr, h]
    simp only [vv, ff, firstRegion, apartAll, clash, meets, execOp, evBox, opnd, builtinHM, bin, convHM, fillP, fieldsPlace, solid, inOrd, sliceHM, bound, zOK, appendHM, srcCells, borL, isSl, slLen, storeHM, loadHM, look1, idxAddr, arrAddr, cellsOf, TD.agg, loadedL, loaded, borrowed, isOwn, fieldR, partHM, absorbL, absorb1, setAt, killAV, killL, leafV, getR, isNil, nilV, Array.toList, List.map, bne_self_eq_false, reduceIte, reduceCtorEq, Nat.reduceEqDiff, Nat.reduceAdd, Nat.reduceMul, Nat.reduceSub, Nat.reduceBEq, Nat.reduceLeDiff, Int.reduceEq, Int.reduceLT, Int.reduceLE, Int.reduceGE, Int.reduceGT, Int.reduceBEq, Int.reduceBNe, Int.reduceToNat, Int.reduceNeg, Int.reduceSub, Int.reduceAdd, Int.reduceMul, finish, wkAV, resOf, resa, noSnap, noSnapL, noSnapO, keep, liveKeys, keysL, keysAV, renAV, renL, rr]
    have : a ≠ b := by intro e; subst e; simp at h
    simp [this]
  · have hab : a.length = b.length := by simp at h; omega
    simp only [vv, firstRegion, apartAll, clash, meets, execOp, evBox, opnd, builtinHM, bin, convHM, fillP, fieldsPlace, solid, inOrd, sliceHM, bound, zOK, appendHM, srcCells, borL, isSl, slLen, storeHM, loadHM, look1, idxAddr, arrAddr, cellsOf, TD.agg, loadedL, loaded, borrowed, isOwn, fieldR, partHM, absorbL, absorb1, setAt, killAV, killL, leafV, getR, isNil, nilV, Array.toList, List.map, bne_self_eq_false, reduceIte, reduceCtorEq, Nat.reduceEqDiff, Nat.reduceAdd, Nat.reduceMul, Nat.reduceSub, Nat.reduceBEq, Nat.reduceLeDiff, Int.reduceEq, Int.reduceLT, Int.reduceLE, Int.reduceGE, Int.reduceGT, Int.reduceBEq, Int.reduceBNe, Int.reduceToNat, Int.reduceNeg, Int.reduceSub, Int.reduceAdd, Int.reduceMul, rr, h]
    refine loop_inv (fun i => ∀ j, j < i → a[j]? = b[j]?) (fun i => {T := tp [(0, .sl tg 1 a.length cap (a.map (iv .i64))), (1, .sl tg' 1 b.length cap' (b.map (iv .i64))), (5, vi i)], H := hp [], nx := 0}) a.length ?_ (fun j h => by omega) (lt_LF hl) (fun i hi hI Kn hK => ?_) (fun hI Kn => ?_)
    · simp only [vv, ff, norm, Array.toList, List.map, bne_self_eq_false, reduceIte, reduceCtorEq, Nat.reduceEqDiff, Nat.reduceAdd, Nat.reduceMul, Nat.reduceSub, Nat.reduceBEq, Nat.reduceLeDiff, Int.reduceEq, Int.reduceLT, Int.reduceLE, Int.reduceGE, Int.reduceGT, Int.reduceBEq, Int.reduceBNe, Int.reduceToNat, Int.reduceNeg, Int.reduceSub, Int.reduceAdd, Int.reduceMul, finish, wkAV, resOf, resa, noSnap, noSnapL, noSnapO, keep, liveKeys, keysL, keysAV, renAV, renL, Int.natCast_zero]
    · have hib : i < b.length := by omega
      simp only [vv, firstRegion, apartAll, clash, meets, execOp, evBox, opnd, builtinHM, bin, convHM, fillP, fieldsPlace, solid, inOrd, sliceHM, bound, zOK, appendHM, srcCells, borL, isSl, slLen, storeHM, loadHM, look1, idxAddr, arrAddr, cellsOf, TD.agg, loadedL, loaded, borrowed, isOwn, fieldR, partHM, absorbL, absorb1, setAt, killAV, killL, leafV, getR, isNil, nilV, Array.toList, List.map, bne_self_eq_false, reduceIte, reduceCtorEq, Nat.reduceEqDiff, Nat.reduceAdd, Nat.reduceMul, Nat.reduceSub, Nat.reduceBEq, Nat.reduceLeDiff, Int.reduceEq, Int.reduceLT, Int.reduceLE, Int.reduceGE, Int.reduceGT, Int.reduceBEq, Int.reduceBNe, Int.reduceToNat, Int.reduceNeg, Int.reduceSub, Int.reduceAdd, Int.reduceMul, rr, lt_ok hi, lt_ok hib, map_get hi, map_get hib]
      refine evIf_elim (fun h => ?_) (fun h => ?_)
      · simp only [vv, firstRegion, apartAll, clash, meets, execOp, evBox, opnd, builtinHM, bin, convHM, fillP, fieldsPlace, solid, inOrd, sliceHM, bound, zOK, appendHM, srcCells, borL, isSl, slLen, storeHM, loadHM, look1, idxAddr, arrAddr, cellsOf, TD.agg, loadedL, loaded, borrowed, isOwn, fieldR, partHM, absorbL, absorb1, setAt, killAV, killL, leafV, getR, isNil, nilV, Array.toList, List.map, bne_self_eq_false, reduceIte, reduceCtorEq, Nat.reduceEqDiff, Nat.reduceAdd, Nat.reduceMul, Nat.reduceSub, Nat.reduceBEq, Nat.reduceLeDiff, Int.reduceEq, Int.reduceLT, Int.reduceLE, Int.reduceGE, Int.reduceGT, Int.reduceBEq, Int.reduceBNe, Int.reduceToNat, Int.reduceNeg, Int.reduceSub, Int.reduceAdd, Int.reduceMul, rr]
        simp only [vv, ff, firstRegion, apartAll, clash, meets, execOp, evBox, opnd, builtinHM, bin, convHM, fillP, fieldsPlace, solid, inOrd, sliceHM, bound, zOK, appendHM, srcCells, borL, isSl, slLen, storeHM, loadHM, look1, idxAddr, arrAddr, cellsOf, TD.agg, loadedL, loaded, borrowed, isOwn, fieldR, partHM, absorbL, absorb1, setAt, killAV, killL, leafV, getR, isNil, nilV, Array.toList, List.map, bne_self_eq_false, reduceIte, reduceCtorEq, Nat.reduceEqDiff, Nat.reduceAdd, Nat.reduceMul, Nat.reduceSub, Nat.reduceBEq, Nat.reduceLeDiff, Int.reduceEq, Int.reduceLT, Int.reduceLE, Int.reduceGE, Int.reduceGT, Int.reduceBEq, Int.reduceBNe, Int.reduceToNat, Int.reduceNeg, Int.reduceSub, Int.reduceAdd, Int.reduceMul, finish, wkAV, resOf, resa, noSnap, noSnapL, noSnapO, keep, liveKeys, keysL, keysAV, renAV, renL, rr]
        have : a ≠ b := by intro e; subst e; simp at h
        simp [this]
      · have hx : a[i] = b[i] := by simpa using h
        simp only [vv, firstRegion, apartAll, clash, meets, execOp, evBox, opnd, builtinHM, bin, convHM, fillP, fieldsPlace, solid, inOrd, sliceHM, bound, zOK, appendHM, srcCells, borL, isSl, slLen, storeHM, loadHM, look1, idxAddr, arrAddr, cellsOf, TD.agg, loadedL, loaded, borrowed, isOwn, fieldR, partHM, absorbL, absorb1, setAt, killAV, killL, leafV, getR, isNil, nilV, Array.toList, List.map, bne_self_eq_false, reduceIte, reduceCtorEq, Nat.reduceEqDiff, Nat.reduceAdd, Nat.reduceMul, Nat.reduceSub, Nat.reduceBEq, Nat.reduceLeDiff, Int.reduceEq, Int.reduceLT, Int.reduceLE, Int.reduceGE, Int.reduceGT, Int.reduceBEq, Int.reduceBNe, Int.reduceToNat, Int.reduceNeg, Int.reduceSub, Int.reduceAdd, Int.reduceMul, rr, wrap_succ hi hl]
        refine hK (fun j hj => ?_) _ ?_
        · by_cases e : j = i
          · subst e; rw [List.getElem?_eq_getElem hi, List.getElem?_eq_getElem hib, hx]
          · exact hI j (by omega)
        · simp only [vv, ff, norm, Array.toList, List.map, bne_self_eq_false, reduceIte, reduceCtorEq, Nat.reduceEqDiff, Nat.reduceAdd, Nat.reduceMul, Nat.reduceSub, Nat.reduceBEq, Nat.reduceLeDiff, Int.reduceEq, Int.reduceLT, Int.reduceLE, Int.reduceGE, Int.reduceGT, Int.reduceBEq, Int.reduceBNe, Int.reduceToNat, Int.reduceNeg, Int.reduceSub, Int.reduceAdd, Int.reduceMul, finish, wkAV, resOf, resa, noSnap, noSnapL, noSnapO, keep, liveKeys, keysL, keysAV, renAV, renL]
    · simp only [vv, firstRegion, apartAll, clash, meets, execOp, evBox, opnd, builtinHM, bin, convHM, fillP, fieldsPlace, solid, inOrd, sliceHM, bound, zOK, appendHM, srcCells, borL, isSl, slLen, storeHM, loadHM, look1, idxAddr, arrAddr, cellsOf, TD.agg, loadedL, loaded, borrowed, isOwn, fieldR, partHM, absorbL, absorb1, setAt, killAV, killL, leafV, getR, isNil, nilV, Array.toList, List.map, bne_self_eq_false, reduceIte, reduceCtorEq, Nat.reduceEqDiff, Nat.reduceAdd, Nat.reduceMul, Nat.reduceSub, Nat.reduceBEq, Nat.reduceLeDiff, Int.reduceEq, Int.reduceLT, Int.reduceLE, Int.reduceGE, Int.reduceGT, Int.reduceBEq, Int.reduceBNe, Int.reduceToNat, Int.reduceNeg, Int.reduceSub, Int.reduceAdd, Int.reduceMul, rr, lt_no]
      simp only [vv, ff, firstRegion, apartAll, clash, meets, execOp, evBox, opnd, builtinHM, bin, convHM, fillP, fieldsPlace, solid, inOrd, sliceHM, bound, zOK, appendHM, srcCells, borL, isSl, slLen, storeHM, loadHM, look1, idxAddr, arrAddr, cellsOf, TD.agg, loadedL, loaded, borrowed, isOwn, fieldR, partHM, absorbL, absorb1, setAt, killAV, killL, leafV, getR, isNil, nilV, Array.toList, List.map, bne_self_eq_false, reduceIte, reduceCtorEq, Nat.reduceEqDiff, Nat.reduceAdd, Nat.reduceMul, Nat.reduceSub, Nat.reduceBEq, Nat.reduceLeDiff, Int.reduceEq, Int.reduceLT, Int.reduceLE, Int.reduceGE, Int.reduceGT, Int.reduceBEq, Int.reduceBNe, Int.reduceToNat, Int.reduceNeg, Int.reduceSub, Int.reduceAdd, Int.reduceMul, finish, wkAV, resOf, resa, noSnap, noSnapL, noSnapO, keep, liveKeys, keysL, keysAV, renAV, renL, rr]
      have : a = b := List.ext_getElem? fun j => by
        by_cases hj : j < a.length
        · exact hI j hj
        · rw [List.getElem?_eq_none (by omega), List.getElem?_eq_none (by omega)]
      simp [this]

abbrev bad (x : Int) : Bool := !(decide (x ≥ 0) && decide (x ≤ 1152921504606846975))
theorem e55 (d : Nat) (tg : Tg) (cap : Option Nat) (p : List Int) (hl : p.length ≤ 2 ^ 39) : evFun E (d+4) 55 [.sl tg 1 p.length cap (p.map (iv .i64)), .fn 36 []] [] = some (vi (if p.any bad then (p.findIdx bad : Int) else -1), []) := by
  refine evFun_body b55 ?_
  simp only [vv, firstRegion, apartAll, clash, meets, execOp, evBox, opnd, builtinHM, bin, convHM, fillP, fieldsPlace, solid, inOrd, sliceHM, bound, zOK, appendHM, srcCells, borL, isSl, slLen, storeHM, loadHM, look1, idxAddr, arrAddr, cellsOf, TD.agg, loadedL, loaded, borrowed, isOwn, fieldR, partHM, absorbL, absorb1, setAt, killAV, killL, leafV, getR, isNil, nilV, Array.toList, List.map, bne_self_eq_false, reduceIte, reduceCtorEq, Nat.reduceEqDiff, Nat.reduceAdd, Nat.reduceMul, Nat.reduceSub, Nat.reduceBEq, Nat.reduceLeDiff, Int.reduceEq, Int.reduceLT, Int.reduceLE, Int.reduceGE, Int.reduceGT, Int.reduceBEq, Int.reduceBNe, Int.reduceToNat, Int.reduceNeg, Int.reduceSub, Int.reduceAdd, Int.reduceMul, rr, Try.f55]
  refine loop_inv (fun i => ∀ j (h : j < p.length), j < i → bad p[j] = false) (fun i => {T := tp [(0, .sl tg 1 p.length cap (p.map (iv .i64))), (1, .fn 36 []), (7, vi p.length), (8, vi i)], H := hp [], nx := 0}) p.length ?_ (fun j _ h => by omega) (lt_LF hl) (fun i hi hI Kn hK => ?_) (fun hI Kn => ?_)
  · simp only [vv, ff, norm, Array.toList, List.map, bne_self_eq_false, reduceIte, reduceCtorEq, Nat.reduceEqDiff, Nat.reduceAdd, Nat.reduceMul, Nat.reduceSub, Nat.reduceBEq, Nat.reduceLeDiff, Int.reduceEq, Int.reduceLT, Int.reduceLE, Int.reduceGE, Int.reduceGT, Int.reduceBEq, Int.reduceBNe, Int.reduceToNat, Int.reduceNeg, Int.reduceSub, Int.reduceAdd, Int.reduceMul, finish, wkAV, resOf, resa, noSnap, noSnapL, noSnapO, keep, liveKeys, keysL, keysAV, renAV, renL, Int.natCast_zero]
  · simp only [vv, cc, firstRegion, apartAll, clash, meets, execOp, evBox, opnd, builtinHM, bin, convHM, fillP, fieldsPlace, solid, inOrd, sliceHM, bound, zOK, appendHM, srcCells, borL, isSl, slLen, storeHM, loadHM, look1, idxAddr, arrAddr, cellsOf, TD.agg, loadedL, loaded, borrowed, isOwn, fieldR, partHM, absorbL, absorb1, setAt, killAV, killL, leafV, getR, isNil, nilV, Array.toList, List.map, bne_self_eq_false, reduceIte, reduceCtorEq, Nat.reduceEqDiff, Nat.reduceAdd, Nat.reduceMul, Nat.reduceSub, Nat.reduceBEq, Nat.reduceLeDiff, Int.reduceEq, Int.reduceLT, Int.reduceLE, Int.reduceGE, Int.reduceGT, Int.reduceBEq, Int.reduceBNe, Int.reduceToNat, Int.reduceNeg, Int.reduceSub, Int.reduceAdd, Int.reduceMul, callHM, callOld, isSub, isPathRef, isValA, lendHead, subHM, subCall, plainRow, packA, packL, pack1, lendP, lentOk, getLent, putBack, backK, renAV, renL, rr, lt_ok hi, map_get hi, e36]
    refine evIf_elim (fun h => ?_) (fun h => ?_)
    · simp only [vv, firstRegion, apartAll, clash, meets, execOp, evBox, opnd, builtinHM, bin, convHM, fillP, fieldsPlace, solid, inOrd, sliceHM, bound, zOK, appendHM, srcCells, borL, isSl, slLen, storeHM, loadHM, look1, idxAddr, arrAddr, cellsOf, TD.agg, loadedL, loaded, borrowed, isOwn, fieldR, partHM, absorbL, absorb1, setAt, killAV, killL, leafV, getR, isNil, nilV, Array.toList, List.map, bne_self_eq_false, reduceIte, reduceCtorEq, Nat.reduceEqDiff, Nat.reduceAdd, Nat.reduceMul, Nat.reduceSub, Nat.reduceBEq, Nat.reduceLeDiff, Int.reduceEq, Int.reduceLT, Int.reduceLE, Int.reduceGE, Int.reduceGT, Int.reduceBEq, Int.reduceBNe, Int.reduceToNat, Int.reduceNeg, Int.reduceSub, Int.reduceAdd, Int.reduceMul, rr]
      simp only [vv, ff, firstRegion, apartAll, clash, meets, execOp, evBox, opnd, builtinHM, bin, convHM, fillP, fieldsPlace, solid, inOrd, sliceHM, bound, zOK, appendHM, srcCells, borL, isSl, slLen, storeHM, loadHM, look1, idxAddr, arrAddr, cellsOf, TD.agg, loadedL, loaded, borrowed, isOwn, fieldR, partHM, absorbL, absorb1, setAt, killAV, killL, leafV, getR, isNil, nilV, Array.toList, List.map, bne_self_eq_false, reduceIte, reduceCtorEq, Nat.reduceEqDiff, Nat.reduceAdd, Nat.reduceMul, Nat.reduceSub, Nat.reduceBEq, Nat.reduceLeDiff, Int.reduceEq, Int.reduceLT, Int.reduceLE, Int.reduceGE, Int.reduceGT, Int.reduceBEq, Int.reduceBNe, Int.reduceToNat, Int.reduceNeg, Int.reduceSub, Int.reduceAdd, Int.reduceMul, finish, wkAV, resOf, resa, noSnap, noSnapL, noSnapO, keep, liveKeys, keysL, keysAV, renAV, renL, rr]
      have h1 : p.any bad = true := List.any_eq_true.mpr ⟨p[i], List.getElem_mem _, h⟩
      have h2 : p.findIdx bad = i := (List.findIdx_eq hi).mpr ⟨h, fun j hj => hI j (by omega) hj⟩
      rw [if_pos h1, h2]
    · simp only [vv, firstRegion, apartAll, clash, meets, execOp, evBox, opnd, builtinHM, bin, convHM, fillP, fieldsPlace, solid, inOrd, sliceHM, bound, zOK, appendHM, srcCells, borL, isSl, slLen, storeHM, loadHM, look1, idxAddr, arrAddr, cellsOf, TD.agg, loadedL, loaded, borrowed, isOwn, fieldR, partHM, absorbL, absorb1, setAt, killAV, killL, leafV, getR, isNil, nilV, Array.toList, List.map, bne_self_eq_false, reduceIte, reduceCtorEq, Nat.reduceEqDiff, Nat.reduceAdd, Nat.reduceMul, Nat.reduceSub, Nat.reduceBEq, Nat.reduceLeDiff, Int.reduceEq, Int.reduceLT, Int.reduceLE, Int.reduceGE, Int.reduceGT, Int.reduceBEq, Int.reduceBNe, Int.reduceToNat, Int.reduceNeg, Int.reduceSub, Int.reduceAdd, Int.reduceMul, rr, wrap_succ hi hl]
      refine hK (fun j hj hj' => ?_) _ ?_
      · by_cases e : j = i
        · subst e; exact h
        · exact hI j hj (by omega)
      · simp only [vv, ff, norm, Array.toList, List.map, bne_self_eq_false, reduceIte, reduceCtorEq, Nat.reduceEqDiff, Nat.reduceAdd, Nat.reduceMul, Nat.reduceSub, Nat.reduceBEq, Nat.reduceLeDiff, Int.reduceEq, Int.reduceLT, Int.reduceLE, Int.reduceGE, Int.reduceGT, Int.reduceBEq, Int.reduceBNe, Int.reduceToNat, Int.reduceNeg, Int.reduceSub, Int.reduceAdd, Int.reduceMul, finish, wkAV, resOf, resa, noSnap, noSnapL, noSnapO, keep, liveKeys, keysL, keysAV, renAV, renL]
  · simp only [vv, firstRegion, apartAll, clash, meets, execOp, evBox, opnd, builtinHM, bin, convHM, fillP, fieldsPlace, solid, inOrd, sliceHM, bound, zOK, appendHM, srcCells, borL, isSl, slLen, storeHM, loadHM, look1, idxAddr, arrAddr, cellsOf, TD.agg, loadedL, loaded, borrowed, isOwn, fieldR, partHM, absorbL, absorb1, setAt, killAV, killL, leafV, getR, isNil, nilV, Array.toList, List.map, bne_self_eq_false, reduceIte, reduceCtorEq, Nat.reduceEqDiff, Nat.reduceAdd, Nat.reduceMul, Nat.reduceSub, Nat.reduceBEq, Nat.reduceLeDiff, Int.reduceEq, Int.reduceLT, Int.reduceLE, Int.reduceGE, Int.reduceGT, Int.reduceBEq, Int.reduceBNe, Int.reduceToNat, Int.reduceNeg, Int.reduceSub, Int.reduceAdd, Int.reduceMul, rr, lt_no]
    simp only [vv, ff, firstRegion, apartAll, clash, meets, execOp, evBox, opnd, builtinHM, bin, convHM, fillP, fieldsPlace, solid, inOrd, sliceHM, bound, zOK, appendHM, srcCells, borL, isSl, slLen, storeHM, loadHM, look1, idxAddr, arrAddr, cellsOf, TD.agg, loadedL, loaded, borrowed, isOwn, fieldR, partHM, absorbL, absorb1, setAt, killAV, killL, leafV, getR, isNil, nilV, Array.toList, List.map, bne_self_eq_false, reduceIte, reduceCtorEq, Nat.reduceEqDiff, Nat.reduceAdd, Nat.reduceMul, Nat.reduceSub, Nat.reduceBEq, Nat.reduceLeDiff, Int.reduceEq, Int.reduceLT, Int.reduceLE, Int.reduceGE, Int.reduceGT, Int.reduceBEq, Int.reduceBNe, Int.reduceToNat, Int.reduceNeg, Int.reduceSub, Int.reduceAdd, Int.reduceMul, finish, wkAV, resOf, resa, noSnap, noSnapL, noSnapO, keep, liveKeys, keysL, keysAV, renAV, renL, rr]
    have h1 : ¬ p.any bad = true := by
      intro hh
      obtain ⟨x, hx, hb⟩ := List.any_eq_true.mp hh
      obtain ⟨j, hj, rfl⟩ := List.mem_iff_getElem.mp hx
      rw [hI j hj hj] at hb; simp at hb
    rw [if_neg h1]
theorem e35 (d : Nat) (tg : Tg) (cap : Option Nat) (p : List Int) (hl : p.length ≤ 2 ^ 39) : evFun E (d+5) 35 [.sl tg 1 p.length cap (p.map (iv .i64)), .fn 36 []] [] = some (vb (p.any bad), []) := by
  refine evFun_body b35 ?_
  simp only [vv, cc, firstRegion, apartAll, clash, meets, execOp, evBox, opnd, builtinHM, bin, convHM, fillP, fieldsPlace, solid, inOrd, sliceHM, bound, zOK, appendHM, srcCells, borL, isSl, slLen, storeHM, loadHM, look1, idxAddr, arrAddr, cellsOf, TD.agg, loadedL, loaded, borrowed, isOwn, fieldR, partHM, absorbL, absorb1, setAt, killAV, killL, leafV, getR, isNil, nilV, Array.toList, List.map, bne_self_eq_false, reduceIte, reduceCtorEq, Nat.reduceEqDiff, Nat.reduceAdd, Nat.reduceMul, Nat.reduceSub, Nat.reduceBEq, Nat.reduceLeDiff, Int.reduceEq, Int.reduceLT, Int.reduceLE, Int.reduceGE, Int.reduceGT, Int.reduceBEq, Int.reduceBNe, Int.reduceToNat, Int.reduceNeg, Int.reduceSub, Int.reduceAdd, Int.reduceMul, callHM, callOld, isSub, isPathRef, isValA, lendHead, subHM, subCall, plainRow, packA, packL, pack1, lendP, lentOk, getLent, putBack, backK, renAV, renL, rr, Try.f35, e55 _ _ _ _ hl]
  simp only [vv, ff, firstRegion, apartAll, clash, meets, execOp, evBox, opnd, builtinHM, bin, convHM, fillP, fieldsPlace, solid, inOrd, sliceHM, bound, zOK, appendHM, srcCells, borL, isSl, slLen, storeHM, loadHM, look1, idxAddr, arrAddr, cellsOf, TD.agg, loadedL, loaded, borrowed, isOwn, fieldR, partHM, absorbL, absorb1, setAt, killAV, killL, leafV, getR, isNil, nilV, Array.toList, List.map, bne_self_eq_false, reduceIte, reduceCtorEq, Nat.reduceEqDiff, Nat.reduceAdd, Nat.reduceMul, Nat.reduceSub, Nat.reduceBEq, Nat.reduceLeDiff, Int.reduceEq, Int.reduceLT, Int.reduceLE, Int.reduceGE, Int.reduceGT, Int.reduceBEq, Int.reduceBNe, Int.reduceToNat, Int.reduceNeg, Int.reduceSub, Int.reduceAdd, Int.reduceMul, finish, wkAV, resOf, resa, noSnap, noSnapL, noSnapO, keep, liveKeys, keysL, keysAV, renAV, renL, rr]
  cases p.any bad <;> simp
def sayOk (k v : Int) (n : Nat) (m a : Int) (p : List Int) : Bool :=
  if k = 2 then decide (v ≥ 0) && decide (v ≤ 1000000) && (decide (1 ≤ n) && decide (n ≤ 200)) && (decide (m ≥ 1) && decide (m ≤ 8)) && (decide (a ≥ 0) && decide (a ≤ m - 1)) && decide (p.length ≤ 4) && !p.any bad
  else decide (k ≥ 0) && decide (k ≤ 3) && decide (v = 0) && decide (n = 0) && decide (m = 0) && decide (a = 0) && decide (p.length = 0)
abbrev sayV (tg : Tg) (k v : Int) (sh : List Int) (c1 : Option Nat) (m a : Int) (p : List Int) (c2 : Option Nat) : AV := .agg [vi k, vi v, .sl tg 1 sh.length c1 (sh.map (iv .u8)), vi m, vi a, .sl tg 1 p.length c2 (p.map (iv .i64))]
theorem e12 (d : Nat) (k v m a : Int) (sh p : List Int) (c1 c2 : Option Nat) (hl : p.length ≤ 2 ^ 39) : evFun E (d+6) 12 [sayV .snap k v sh c1 m a p c2] [] = some (vb (sayOk k v sh.length m a p), []) := by
  refine evFun_body b12 ?_
  simp only [vv, cc, firstRegion, apartAll, clash, meets, execOp, evBox, opnd, builtinHM, bin, convHM, fillP, fieldsPlace, solid, inOrd, sliceHM, bound, zOK, appendHM, srcCells, borL, isSl, slLen, storeHM, loadHM, look1, idxAddr, arrAddr, cellsOf, TD.agg, loadedL, loaded, borrowed, isOwn, fieldR, partHM, absorbL, absorb1, setAt, killAV, killL, leafV, getR, isNil, nilV, Array.toList, List.map, bne_self_eq_false, reduceIte, reduceCtorEq, Nat.reduceEqDiff, Nat.reduceAdd, Nat.reduceMul, Nat.reduceSub, Nat.reduceBEq, Nat.reduceLeDiff, Int.reduceEq, Int.reduceLT, Int.reduceLE, Int.reduceGE, Int.reduceGT, Int.reduceBEq, Int.reduceBNe, Int.reduceToNat, Int.reduceNeg, Int.reduceSub, Int.reduceAdd, Int.reduceMul, callHM, callOld, isSub, isPathRef, isValA, lendHead, subHM, subCall, plainRow, packA, packL, pack1, lendP, lentOk, getLent, putBack, backK, renAV, renL, rr, Try.f12, e34, e38, e35 _ _ _ _ hl]
  repeat' (first | (refine opG_elim (fun h => ?_) (fun h => ?_) <;> simp only [vv, cc, firstRegion, apartAll, clash, meets, execOp, evBox, opnd, builtinHM, bin, convHM, fillP, fieldsPlace, solid, inOrd, sliceHM, bound, zOK, appendHM, srcCells, borL, isSl, slLen, storeHM, loadHM, look1, idxAddr, arrAddr, cellsOf, TD.agg, loadedL, loaded, borrowed, isOwn, fieldR, partHM, absorbL, absorb1, setAt, killAV, killL, leafV, getR, isNil, nilV, Array.toList, List.map, bne_self_eq_false, reduceIte, reduceCtorEq, Nat.reduceEqDiff, Nat.reduceAdd, Nat.reduceMul, Nat.reduceSub, Nat.reduceBEq, Nat.reduceLeDiff, Int.reduceEq, Int.reduceLT, Int.reduceLE, Int.reduceGE, Int.reduceGT, Int.reduceBEq, Int.reduceBNe, Int.reduceToNat, Int.reduceNeg, Int.reduceSub, Int.reduceAdd, Int.reduceMul, callHM, callOld, isSub, isPathRef, isValA, lendHead, subHM, subCall, plainRow, packA, packL, pack1, lendP, lentOk, getLent, putBack, backK, renAV, renL, rr, h, e34, e38, e35 _ _ _ _ hl]) | (refine evIf_elim (fun h => ?_) (fun h => ?_) <;> simp only [vv, cc, firstRegion, apartAll, clash, meets, execOp, evBox, opnd, builtinHM, bin, convHM, fillP, fieldsPlace, solid, inOrd, sliceHM, bound, zOK, appendHM, srcCells, borL, isSl, slLen, storeHM, loadHM, look1, idxAddr, arrAddr, cellsOf, TD.agg, loadedL, loaded, borrowed, isOwn, fieldR, partHM, absorbL, absorb1, setAt, killAV, killL, leafV, getR, isNil, nilV, Array.toList, List.map, bne_self_eq_false, reduceIte, reduceCtorEq, Nat.reduceEqDiff, Nat.reduceAdd, Nat.reduceMul, Nat.reduceSub, Nat.reduceBEq, Nat.reduceLeDiff, Int.reduceEq, Int.reduceLT, Int.reduceLE, Int.reduceGE, Int.reduceGT, Int.reduceBEq, Int.reduceBNe, Int.reduceToNat, Int.reduceNeg, Int.reduceSub, Int.reduceAdd, Int.reduceMul, callHM, callOld, isSub, isPathRef, isValA, lendHead, subHM, subCall, plainRow, packA, packL, pack1, lendP, lentOk, getLent, putBack, backK, renAV, renL, rr, h, e34, e38, e35 _ _ _ _ hl]))
  all_goals simp only [vv, ff, firstRegion, apartAll, clash, meets, execOp, evBox, opnd, builtinHM, bin, convHM, fillP, fieldsPlace, solid, inOrd, sliceHM, bound, zOK, appendHM, srcCells, borL, isSl, slLen, storeHM, loadHM, look1, idxAddr, arrAddr, cellsOf, TD.agg, loadedL, loaded, borrowed, isOwn, fieldR, partHM, absorbL, absorb1, setAt, killAV, killL, leafV, getR, isNil, nilV, Array.toList, List.map, bne_self_eq_false, reduceIte, reduceCtorEq, Nat.reduceEqDiff, Nat.reduceAdd, Nat.reduceMul, Nat.reduceSub, Nat.reduceBEq, Nat.reduceLeDiff, Int.reduceEq, Int.reduceLT, Int.reduceLE, Int.reduceGE, Int.reduceGT, Int.reduceBEq, Int.reduceBNe, Int.reduceToNat, Int.reduceNeg, Int.reduceSub, Int.reduceAdd, Int.reduceMul, finish, wkAV, resOf, resa, noSnap, noSnapL, noSnapO, keep, liveKeys, keysL, keysAV, renAV, renL, rr]
  all_goals have hw : 1 ≤ m → m ≤ 8 → IntKind.i64.wrap (m - 1) = m - 1 := fun _ _ => wrap64 (by omega) (by omega)
  all_goals first | (simp_all [sayOk]; done) | (simp_all [sayOk]; omega) | (simp_all [sayOk]; cases p <;> simp <;> omega)
theorem e10 (d : Nat) (k v m a : Int) (sh p : List Int) (c1 c2 : Option Nat) (hl : p.length ≤ 2 ^ 39) : evFun E (d+2) 10 [sayV .snap k v sh c1 m a p c2] [] = some (vb (sayOk k v sh.length m a p), []) := by
  refine evFun_body b10 ?_
  simp only [vv, firstRegion, apartAll, clash, meets, execOp, evBox, opnd, builtinHM, bin, convHM, fillP, fieldsPlace, solid, inOrd, sliceHM, bound, zOK, appendHM, srcCells, borL, isSl, slLen, storeHM, loadHM, look1, idxAddr, arrAddr, cellsOf, TD.agg, loadedL, loaded, borrowed, isOwn, fieldR, partHM, absorbL, absorb1, setAt, killAV, killL, leafV, getR, isNil, nilV, Array.toList, List.map, bne_self_eq_false, reduceIte, reduceCtorEq, Nat.reduceEqDiff, Nat.reduceAdd, Nat.reduceMul, Nat.reduceSub, Nat.reduceBEq, Nat.reduceLeDiff, Int.reduceEq, Int.reduceLT, Int.reduceLE, Int.reduceGE, Int.reduceGT, Int.reduceBEq, Int.reduceBNe, Int.reduceToNat, Int.reduceNeg, Int.reduceSub, Int.reduceAdd, Int.reduceMul, rr, Try.f10]
  have hw : 1 ≤ m → m ≤ 8 → IntKind.i64.wrap (m - 1) = m - 1 := fun _ _ => wrap64 (by omega) (by omega)
  refine evIf_elim (fun h => ?_) (fun h => ?_)
  · simp only [vv, firstRegion, apartAll, clash, meets, execOp, evBox, opnd, builtinHM, bin, convHM, fillP, fieldsPlace, solid, inOrd, sliceHM, bound, zOK, appendHM, srcCells, borL, isSl, slLen, storeHM, loadHM, look1, idxAddr, arrAddr, cellsOf, TD.agg, loadedL, loaded, borrowed, isOwn, fieldR, partHM, absorbL, absorb1, setAt, killAV, killL, leafV, getR, isNil, nilV, Array.toList, List.map, bne_self_eq_false, reduceIte, reduceCtorEq, Nat.reduceEqDiff, Nat.reduceAdd, Nat.reduceMul, Nat.reduceSub, Nat.reduceBEq, Nat.reduceLeDiff, Int.reduceEq, Int.reduceLT, Int.reduceLE, Int.reduceGE, Int.reduceGT, Int.reduceBEq, Int.reduceBNe, Int.reduceToNat, Int.reduceNeg, Int.reduceSub, Int.reduceAdd, Int.reduceMul, rr, h]
    repeat' (first | (refine opG_elim (fun h => ?_) (fun h => ?_) <;> simp only [vv, cc, firstRegion, apartAll, clash, meets, execOp, evBox, opnd, builtinHM, bin, convHM, fillP, fieldsPlace, solid, inOrd, sliceHM, bound, zOK, appendHM, srcCells, borL, isSl, slLen, storeHM, loadHM, look1, idxAddr, arrAddr, cellsOf, TD.agg, loadedL, loaded, borrowed, isOwn, fieldR, partHM, absorbL, absorb1, setAt, killAV, killL, leafV, getR, isNil, nilV, Array.toList, List.map, bne_self_eq_false, reduceIte, reduceCtorEq, Nat.reduceEqDiff, Nat.reduceAdd, Nat.reduceMul, Nat.reduceSub, Nat.reduceBEq, Nat.reduceLeDiff, Int.reduceEq, Int.reduceLT, Int.reduceLE, Int.reduceGE, Int.reduceGT, Int.reduceBEq, Int.reduceBNe, Int.reduceToNat, Int.reduceNeg, Int.reduceSub, Int.reduceAdd, Int.reduceMul, callHM, callOld, isSub, isPathRef, isValA, lendHead, subHM, subCall, plainRow, packA, packL, pack1, lendP, lentOk, getLent, putBack, backK, renAV, renL, rr, h]) | (refine evIf_elim (fun h => ?_) (fun h => ?_) <;> simp only [vv, cc, firstRegion, apartAll, clash, meets, execOp, evBox, opnd, builtinHM, bin, convHM, fillP, fieldsPlace, solid, inOrd, sliceHM, bound, zOK, appendHM, srcCells, borL, isSl, slLen, storeHM, loadHM, look1, idxAddr, arrAddr, cellsOf, TD.agg, loadedL, loaded, borrowed, isOwn, fieldR, partHM, absorbL, absorb1, setAt, killAV, killL, leafV, getR, isNil, nilV, Array.toList, List.map, bne_self_eq_false, reduceIte, reduceCtorEq, Nat.reduceEqDiff, Nat.reduceAdd, Nat.reduceMul, Nat.reduceSub, Nat.reduceBEq, Nat.reduceLeDiff, Int.reduceEq, Int.reduceLT, Int.reduceLE, Int.reduceGE, Int.reduceGT, Int.reduceBEq, Int.reduceBNe, Int.reduceToNat, Int.reduceNeg, Int.reduceSub, Int.reduceAdd, Int.reduceMul, callHM, callOld, isSub, isPathRef, isValA, lendHead, subHM, subCall, plainRow, packA, packL, pack1, lendP, lentOk, getLent, putBack, backK, renAV, renL, rr, h]))
    all_goals simp only [vv, ff, firstRegion, apartAll, clash, meets, execOp, evBox, opnd, builtinHM, bin, convHM, fillP, fieldsPlace, solid, inOrd, sliceHM, bound, zOK, appendHM, srcCells, borL, isSl, slLen, storeHM, loadHM, look1, idxAddr, arrAddr, cellsOf, TD.agg, loadedL, loaded, borrowed, isOwn, fieldR, partHM, absorbL, absorb1, setAt, killAV, killL, leafV, getR, isNil, nilV, Array.toList, List.map, bne_self_eq_false, reduceIte, reduceCtorEq, Nat.reduceEqDiff, Nat.reduceAdd, Nat.reduceMul, Nat.reduceSub, Nat.reduceBEq, Nat.reduceLeDiff, Int.reduceEq, Int.reduceLT, Int.reduceLE, Int.reduceGE, Int.reduceGT, Int.reduceBEq, Int.reduceBNe, Int.reduceToNat, Int.reduceNeg, Int.reduceSub, Int.reduceAdd, Int.reduceMul, finish, wkAV, resOf, resa, noSnap, noSnapL, noSnapO, keep, liveKeys, keysL, keysAV, renAV, renL, rr]
    all_goals first | (simp_all [sayOk]; done) | (simp_all [sayOk]; omega) | (simp_all [sayOk]; cases p <;> simp <;> omega)
  · simp only [vv, firstRegion, apartAll, clash, meets, execOp, evBox, opnd, builtinHM, bin, convHM, fillP, fieldsPlace, solid, inOrd, sliceHM, bound, zOK, appendHM, srcCells, borL, isSl, slLen, storeHM, loadHM, look1, idxAddr, arrAddr, cellsOf, TD.agg, loadedL, loaded, borrowed, isOwn, fieldR, partHM, absorbL, absorb1, setAt, killAV, killL, leafV, getR, isNil, nilV, Array.toList, List.map, bne_self_eq_false, reduceIte, reduceCtorEq, Nat.reduceEqDiff, Nat.reduceAdd, Nat.reduceMul, Nat.reduceSub, Nat.reduceBEq, Nat.reduceLeDiff, Int.reduceEq, Int.reduceLT, Int.reduceLE, Int.reduceGE, Int.reduceGT, Int.reduceBEq, Int.reduceBNe, Int.reduceToNat, Int.reduceNeg, Int.reduceSub, Int.reduceAdd, Int.reduceMul, rr, h]
    refine loop_inv (fun i => ∀ j (h : j < p.length), j < i → bad p[j] = false) (fun i => {T := tp [(1, .ptr 0 [] 0), (3, vi i)], H := hp [some [vi k, vi v, .sl .snap 1 sh.length c1 (sh.map (iv .u8)), vi m, vi a, .sl .snap 1 p.length c2 (p.map (iv .i64))]], nx := 1}) p.length ?_ (fun j _ h => by omega) (lt_LF hl) (fun i hi hI Kn hK => ?_) (fun hI Kn => ?_)
    · simp only [vv, ff, norm, Array.toList, List.map, bne_self_eq_false, reduceIte, reduceCtorEq, Nat.reduceEqDiff, Nat.reduceAdd, Nat.reduceMul, Nat.reduceSub, Nat.reduceBEq, Nat.reduceLeDiff, Int.reduceEq, Int.reduceLT, Int.reduceLE, Int.reduceGE, Int.reduceGT, Int.reduceBEq, Int.reduceBNe, Int.reduceToNat, Int.reduceNeg, Int.reduceSub, Int.reduceAdd, Int.reduceMul, finish, wkAV, resOf, resa, noSnap, noSnapL, noSnapO, keep, liveKeys, keysL, keysAV, renAV, renL, Int.natCast_zero]
    · simp only [vv, cc, firstRegion, apartAll, clash, meets, execOp, evBox, opnd, builtinHM, bin, convHM, fillP, fieldsPlace, solid, inOrd, sliceHM, bound, zOK, appendHM, srcCells, borL, isSl, slLen, storeHM, loadHM, look1, idxAddr, arrAddr, cellsOf, TD.agg, loadedL, loaded, borrowed, isOwn, fieldR, partHM, absorbL, absorb1, setAt, killAV, killL, leafV, getR, isNil, nilV, Array.toList, List.map, bne_self_eq_false, reduceIte, reduceCtorEq, Nat.reduceEqDiff, Nat.reduceAdd, Nat.reduceMul, Nat.reduceSub, Nat.reduceBEq, Nat.reduceLeDiff, Int.reduceEq, Int.reduceLT, Int.reduceLE, Int.reduceGE, Int.reduceGT, Int.reduceBEq, Int.reduceBNe, Int.reduceToNat, Int.reduceNeg, Int.reduceSub, Int.reduceAdd, Int.reduceMul, callHM, callOld, isSub, isPathRef, isValA, lendHead, subHM, subCall, plainRow, packA, packL, pack1, lendP, lentOk, getLent, putBack, backK, renAV, renL, rr, lt_ok hi, map_get hi, e32]
      refine evIf_elim (fun h => ?_) (fun h => ?_)
      · simp only [vv, firstRegion, apartAll, clash, meets, execOp, evBox, opnd, builtinHM, bin, convHM, fillP, fieldsPlace, solid, inOrd, sliceHM, bound, zOK, appendHM, srcCells, borL, isSl, slLen, storeHM, loadHM, look1, idxAddr, arrAddr, cellsOf, TD.agg, loadedL, loaded, borrowed, isOwn, fieldR, partHM, absorbL, absorb1, setAt, killAV, killL, leafV, getR, isNil, nilV, Array.toList, List.map, bne_self_eq_false, reduceIte, reduceCtorEq, Nat.reduceEqDiff, Nat.reduceAdd, Nat.reduceMul, Nat.reduceSub, Nat.reduceBEq, Nat.reduceLeDiff, Int.reduceEq, Int.reduceLT, Int.reduceLE, Int.reduceGE, Int.reduceGT, Int.reduceBEq, Int.reduceBNe, Int.reduceToNat, Int.reduceNeg, Int.reduceSub, Int.reduceAdd, Int.reduceMul, rr]
        simp only [vv, ff, firstRegion, apartAll, clash, meets, execOp, evBox, opnd, builtinHM, bin, convHM, fillP, fieldsPlace, solid, inOrd, sliceHM, bound, zOK, appendHM, srcCells, borL, isSl, slLen, storeHM, loadHM, look1, idxAddr, arrAddr, cellsOf, TD.agg, loadedL, loaded, borrowed, isOwn, fieldR, partHM, absorbL, absorb1, setAt, killAV, killL, leafV, getR, isNil, nilV, Array.toList, List.map, bne_self_eq_false, reduceIte, reduceCtorEq, Nat.reduceEqDiff, Nat.reduceAdd, Nat.reduceMul, Nat.reduceSub, Nat.reduceBEq, Nat.reduceLeDiff, Int.reduceEq, Int.reduceLT, Int.reduceLE, Int.reduceGE, Int.reduceGT, Int.reduceBEq, Int.reduceBNe, Int.reduceToNat, Int.reduceNeg, Int.reduceSub, Int.reduceAdd, Int.reduceMul, finish, wkAV, resOf, resa, noSnap, noSnapL, noSnapO, keep, liveKeys, keysL, keysAV, renAV, renL, rr]
        have h1 : p.any bad = true := List.any_eq_true.mpr ⟨p[i], List.getElem_mem _, h⟩
        simp_all [sayOk]
      · simp only [vv, firstRegion, apartAll, clash, meets, execOp, evBox, opnd, builtinHM, bin, convHM, fillP, fieldsPlace, solid, inOrd, sliceHM, bound, zOK, appendHM, srcCells, borL, isSl, slLen, storeHM, loadHM, look1, idxAddr, arrAddr, cellsOf, TD.agg, loadedL, loaded, borrowed, isOwn, fieldR, partHM, absorbL, absorb1, setAt, killAV, killL, leafV, getR, isNil, nilV, Array.toList, List.map, bne_self_eq_false, reduceIte, reduceCtorEq, Nat.reduceEqDiff, Nat.reduceAdd, Nat.reduceMul, Nat.reduceSub, Nat.reduceBEq, Nat.reduceLeDiff, Int.reduceEq, Int.reduceLT, Int.reduceLE, Int.reduceGE, Int.reduceGT, Int.reduceBEq, Int.reduceBNe, Int.reduceToNat, Int.reduceNeg, Int.reduceSub, Int.reduceAdd, Int.reduceMul, rr, wrap_succ hi hl]
        refine hK (fun j hj hj' => ?_) _ ?_
        · by_cases e : j = i
          · subst e; exact h
          · exact hI j hj (by omega)
        · simp only [vv, ff, norm, Array.toList, List.map, bne_self_eq_false, reduceIte, reduceCtorEq, Nat.reduceEqDiff, Nat.reduceAdd, Nat.reduceMul, Nat.reduceSub, Nat.reduceBEq, Nat.reduceLeDiff, Int.reduceEq, Int.reduceLT, Int.reduceLE, Int.reduceGE, Int.reduceGT, Int.reduceBEq, Int.reduceBNe, Int.reduceToNat, Int.reduceNeg, Int.reduceSub, Int.reduceAdd, Int.reduceMul, finish, wkAV, resOf, resa, noSnap, noSnapL, noSnapO, keep, liveKeys, keysL, keysAV, renAV, renL]
    · have h1 : p.any bad = false := by
        refine List.any_eq_false.mpr fun x hx hb => ?_
        obtain ⟨j, hj, rfl⟩ := List.mem_iff_getElem.mp hx
        rw [hI j hj hj] at hb; simp at hb
      simp only [vv, cc, firstRegion, apartAll, clash, meets, execOp, evBox, opnd, builtinHM, bin, convHM, fillP, fieldsPlace, solid, inOrd, sliceHM, bound, zOK, appendHM, srcCells, borL, isSl, slLen, storeHM, loadHM, look1, idxAddr, arrAddr, cellsOf, TD.agg, loadedL, loaded, borrowed, isOwn, fieldR, partHM, absorbL, absorb1, setAt, killAV, killL, leafV, getR, isNil, nilV, Array.toList, List.map, bne_self_eq_false, reduceIte, reduceCtorEq, Nat.reduceEqDiff, Nat.reduceAdd, Nat.reduceMul, Nat.reduceSub, Nat.reduceBEq, Nat.reduceLeDiff, Int.reduceEq, Int.reduceLT, Int.reduceLE, Int.reduceGE, Int.reduceGT, Int.reduceBEq, Int.reduceBNe, Int.reduceToNat, Int.reduceNeg, Int.reduceSub, Int.reduceAdd, Int.reduceMul, callHM, callOld, isSub, isPathRef, isValA, lendHead, subHM, subCall, plainRow, packA, packL, pack1, lendP, lentOk, getLent, putBack, backK, renAV, renL, rr, lt_no, e32]
      repeat' (first | (refine opG_elim (fun h => ?_) (fun h => ?_) <;> simp only [vv, cc, firstRegion, apartAll, clash, meets, execOp, evBox, opnd, builtinHM, bin, convHM, fillP, fieldsPlace, solid, inOrd, sliceHM, bound, zOK, appendHM, srcCells, borL, isSl, slLen, storeHM, loadHM, look1, idxAddr, arrAddr, cellsOf, TD.agg, loadedL, loaded, borrowed, isOwn, fieldR, partHM, absorbL, absorb1, setAt, killAV, killL, leafV, getR, isNil, nilV, Array.toList, List.map, bne_self_eq_false, reduceIte, reduceCtorEq, Nat.reduceEqDiff, Nat.reduceAdd, Nat.reduceMul, Nat.reduceSub, Nat.reduceBEq, Nat.reduceLeDiff, Int.reduceEq, Int.reduceLT, Int.reduceLE, Int.reduceGE, Int.reduceGT, Int.reduceBEq, Int.reduceBNe, Int.reduceToNat, Int.reduceNeg, Int.reduceSub, Int.reduceAdd, Int.reduceMul, callHM, callOld, isSub, isPathRef, isValA, lendHead, subHM, subCall, plainRow, packA, packL, pack1, lendP, lentOk, getLent, putBack, backK, renAV, renL, rr, h, e32]) | (refine evIf_elim (fun h => ?_) (fun h => ?_) <;> simp only [vv, cc, firstRegion, apartAll, clash, meets, execOp, evBox, opnd, builtinHM, bin, convHM, fillP, fieldsPlace, solid, inOrd, sliceHM, bound, zOK, appendHM, srcCells, borL, isSl, slLen, storeHM, loadHM, look1, idxAddr, arrAddr, cellsOf, TD.agg, loadedL, loaded, borrowed, isOwn, fieldR, partHM, absorbL, absorb1, setAt, killAV, killL, leafV, getR, isNil, nilV, Array.toList, List.map, bne_self_eq_false, reduceIte, reduceCtorEq, Nat.reduceEqDiff, Nat.reduceAdd, Nat.reduceMul, Nat.reduceSub, Nat.reduceBEq, Nat.reduceLeDiff, Int.reduceEq, Int.reduceLT, Int.reduceLE, Int.reduceGE, Int.reduceGT, Int.reduceBEq, Int.reduceBNe, Int.reduceToNat, Int.reduceNeg, Int.reduceSub, Int.reduceAdd, Int.reduceMul, callHM, callOld, isSub, isPathRef, isValA, lendHead, subHM, subCall, plainRow, packA, packL, pack1, lendP, lentOk, getLent, putBack, backK, renAV, renL, rr, h, e32]))
      all_goals simp only [vv, ff, firstRegion, apartAll, clash, meets, execOp, evBox, opnd, builtinHM, bin, convHM, fillP, fieldsPlace, solid, inOrd, sliceHM, bound, zOK, appendHM, srcCells, borL, isSl, slLen, storeHM, loadHM, look1, idxAddr, arrAddr, cellsOf, TD.agg, loadedL, loaded, borrowed, isOwn, fieldR, partHM, absorbL, absorb1, setAt, killAV, killL, leafV, getR, isNil, nilV, Array.toList, List.map, bne_self_eq_false, reduceIte, reduceCtorEq, Nat.reduceEqDiff, Nat.reduceAdd, Nat.reduceMul, Nat.reduceSub, Nat.reduceBEq, Nat.reduceLeDiff, Int.reduceEq, Int.reduceLT, Int.reduceLE, Int.reduceGE, Int.reduceGT, Int.reduceBEq, Int.reduceBNe, Int.reduceToNat, Int.reduceNeg, Int.reduceSub, Int.reduceAdd, Int.reduceMul, finish, wkAV, resOf, resa, noSnap, noSnapL, noSnapO, keep, liveKeys, keysL, keysAV, renAV, renL, rr]
      all_goals simp only [sayOk, h1]
      all_goals clear h1 hI
      all_goals first | (simp_all; done) | (simp_all; omega) | (simp_all; rw [Bool.eq_iff_iff]; simp; omega)

theorem e9 (d : Nat) (k v m a : Int) (sh p : List Int) (c1 c2 : Option Nat) (h1 : sh.length ≤ 9223372036854775807) (h2 : p.length ≤ 9223372036854775807) : evFun E (d+2) 9 [sayV .fgn k v sh c1 m a p c2, vi 1048576] [] = some (vi (if sh.length + p.length ≤ 1048576 then 1048576 - sh.length - p.length else -1), []) := by
  refine evFun_body b9 ?_
  have w1 : IntKind.i64.wrap (1048576 - (sh.length : Int)) = 1048576 - sh.length := wrap64 (by omega) (by omega)
  by_cases hn : sh.length ≤ 1048576
  · have i1 : ¬ (1048576 - (sh.length : Int) < 0) := by omega
    have w2 : IntKind.i64.wrap (1048576 - (sh.length : Int) - p.length) = 1048576 - sh.length - p.length := wrap64 (by omega) (by omega)
    have d1 : decide (1048576 - (sh.length : Int) < 0) = false := by simp; omega
    simp only [vv, cc, firstRegion, apartAll, clash, meets, execOp, evBox, opnd, builtinHM, bin, convHM, fillP, fieldsPlace, solid, inOrd, sliceHM, bound, zOK, appendHM, srcCells, borL, isSl, slLen, storeHM, loadHM, look1, idxAddr, arrAddr, cellsOf, TD.agg, loadedL, loaded, borrowed, isOwn, fieldR, partHM, absorbL, absorb1, setAt, killAV, killL, leafV, getR, isNil, nilV, Array.toList, List.map, bne_self_eq_false, reduceIte, reduceCtorEq, Nat.reduceEqDiff, Nat.reduceAdd, Nat.reduceMul, Nat.reduceSub, Nat.reduceBEq, Nat.reduceLeDiff, Int.reduceEq, Int.reduceLT, Int.reduceLE, Int.reduceGE, Int.reduceGT, Int.reduceBEq, Int.reduceBNe, Int.reduceToNat, Int.reduceNeg, Int.reduceSub, Int.reduceAdd, Int.reduceMul, callHM, callOld, isSub, isPathRef, isValA, lendHead, subHM, subCall, plainRow, packA, packL, pack1, lendP, lentOk, getLent, putBack, backK, renAV, renL, rr, Try.f9, e30 _ _ _ _ _ _ w1, if_neg i1, d1, e31 _ _ _ _ _ _ w2]
    refine evIf_elim (fun h => ?_) (fun h => ?_) <;> simp only [vv, firstRegion, apartAll, clash, meets, execOp, evBox, opnd, builtinHM, bin, convHM, fillP, fieldsPlace, solid, inOrd, sliceHM, bound, zOK, appendHM, srcCells, borL, isSl, slLen, storeHM, loadHM, look1, idxAddr, arrAddr, cellsOf, TD.agg, loadedL, loaded, borrowed, isOwn, fieldR, partHM, absorbL, absorb1, setAt, killAV, killL, leafV, getR, isNil, nilV, Array.toList, List.map, bne_self_eq_false, reduceIte, reduceCtorEq, Nat.reduceEqDiff, Nat.reduceAdd, Nat.reduceMul, Nat.reduceSub, Nat.reduceBEq, Nat.reduceLeDiff, Int.reduceEq, Int.reduceLT, Int.reduceLE, Int.reduceGE, Int.reduceGT, Int.reduceBEq, Int.reduceBNe, Int.reduceToNat, Int.reduceNeg, Int.reduceSub, Int.reduceAdd, Int.reduceMul, rr, h] <;> simp only [vv, ff, firstRegion, apartAll, clash, meets, execOp, evBox, opnd, builtinHM, bin, convHM, fillP, fieldsPlace, solid, inOrd, sliceHM, bound, zOK, appendHM, srcCells, borL, isSl, slLen, storeHM, loadHM, look1, idxAddr, arrAddr, cellsOf, TD.agg, loadedL, loaded, borrowed, isOwn, fieldR, partHM, absorbL, absorb1, setAt, killAV, killL, leafV, getR, isNil, nilV, Array.toList, List.map, bne_self_eq_false, reduceIte, reduceCtorEq, Nat.reduceEqDiff, Nat.reduceAdd, Nat.reduceMul, Nat.reduceSub, Nat.reduceBEq, Nat.reduceLeDiff, Int.reduceEq, Int.reduceLT, Int.reduceLE, Int.reduceGE, Int.reduceGT, Int.reduceBEq, Int.reduceBNe, Int.reduceToNat, Int.reduceNeg, Int.reduceSub, Int.reduceAdd, Int.reduceMul, finish, wkAV, resOf, resa, noSnap, noSnapL, noSnapO, keep, liveKeys, keysL, keysAV, renAV, renL, rr]
    · have : ¬ (sh.length + p.length ≤ 1048576) := by
        intro hh
        rw [if_neg (by omega)] at h
        simp at h; omega
      rw [if_neg this]
    · have : (sh.length + p.length ≤ 1048576) := by
        refine Classical.byContradiction fun hh => ?_
        rw [if_pos (by omega)] at h
        simp at h
      rw [if_pos this, if_neg (by omega)]
  · have i1 : (1048576 - (sh.length : Int) < 0) := by omega
    have d1 : decide ((-1 : Int) < 0) = true := by decide
    simp only [vv, cc, firstRegion, apartAll, clash, meets, execOp, evBox, opnd, builtinHM, bin, convHM, fillP, fieldsPlace, solid, inOrd, sliceHM, bound, zOK, appendHM, srcCells, borL, isSl, slLen, storeHM, loadHM, look1, idxAddr, arrAddr, cellsOf, TD.agg, loadedL, loaded, borrowed, isOwn, fieldR, partHM, absorbL, absorb1, setAt, killAV, killL, leafV, getR, isNil, nilV, Array.toList, List.map, bne_self_eq_false, reduceIte, reduceCtorEq, Nat.reduceEqDiff, Nat.reduceAdd, Nat.reduceMul, Nat.reduceSub, Nat.reduceBEq, Nat.reduceLeDiff, Int.reduceEq, Int.reduceLT, Int.reduceLE, Int.reduceGE, Int.reduceGT, Int.reduceBEq, Int.reduceBNe, Int.reduceToNat, Int.reduceNeg, Int.reduceSub, Int.reduceAdd, Int.reduceMul, callHM, callOld, isSub, isPathRef, isValA, lendHead, subHM, subCall, plainRow, packA, packL, pack1, lendP, lentOk, getLent, putBack, backK, renAV, renL, rr, Try.f9, e30 _ _ _ _ _ _ w1, if_pos i1, d1]
    simp only [vv, ff, firstRegion, apartAll, clash, meets, execOp, evBox, opnd, builtinHM, bin, convHM, fillP, fieldsPlace, solid, inOrd, sliceHM, bound, zOK, appendHM, srcCells, borL, isSl, slLen, storeHM, loadHM, look1, idxAddr, arrAddr, cellsOf, TD.agg, loadedL, loaded, borrowed, isOwn, fieldR, partHM, absorbL, absorb1, setAt, killAV, killL, leafV, getR, isNil, nilV, Array.toList, List.map, bne_self_eq_false, reduceIte, reduceCtorEq, Nat.reduceEqDiff, Nat.reduceAdd, Nat.reduceMul, Nat.reduceSub, Nat.reduceBEq, Nat.reduceLeDiff, Int.reduceEq, Int.reduceLT, Int.reduceLE, Int.reduceGE, Int.reduceGT, Int.reduceBEq, Int.reduceBNe, Int.reduceToNat, Int.reduceNeg, Int.reduceSub, Int.reduceAdd, Int.reduceMul, finish, wkAV, resOf, resa, noSnap, noSnapL, noSnapO, keep, liveKeys, keysL, keysAV, renAV, renL, rr]
    rw [if_neg (by omega)]
theorem e11 (d : Nat) (k v m a : Int) (sh p : List Int) (c1 c2 : Option Nat) (h1 : sh.length ≤ 2 ^ 39) (h2 : p.length ≤ 2 ^ 39) : evFun E (d+2) 11 [sayV .fgn k v sh c1 m a p c2] [] =
    some (.agg [vi k, vi v, .ref 0 [2] 1 0 sh.length none, vi m, vi a, .ref 0 [5] 1 0 p.length none], [some [vi k, vi v, .sl .own 1 sh.length none (sh.map (iv .u8)), vi m, vi a, .sl .own 1 p.length none (p.map (iv .i64))]]) := by
  refine evFun_body b11 ?_
  simp only [vv, cc, firstRegion, apartAll, clash, meets, execOp, evBox, opnd, builtinHM, bin, convHM, fillP, fieldsPlace, solid, inOrd, sliceHM, bound, zOK, appendHM, srcCells, borL, isSl, slLen, storeHM, loadHM, look1, idxAddr, arrAddr, cellsOf, TD.agg, loadedL, loaded, borrowed, isOwn, fieldR, partHM, absorbL, absorb1, setAt, killAV, killL, leafV, getR, isNil, nilV, Array.toList, List.map, bne_self_eq_false, reduceIte, reduceCtorEq, Nat.reduceEqDiff, Nat.reduceAdd, Nat.reduceMul, Nat.reduceSub, Nat.reduceBEq, Nat.reduceLeDiff, Int.reduceEq, Int.reduceLT, Int.reduceLE, Int.reduceGE, Int.reduceGT, Int.reduceBEq, Int.reduceBNe, Int.reduceToNat, Int.reduceNeg, Int.reduceSub, Int.reduceAdd, Int.reduceMul, callHM, callOld, isSub, isPathRef, isValA, lendHead, subHM, subCall, plainRow, packA, packL, pack1, lendP, lentOk, getLent, putBack, backK, renAV, renL, rr, Try.f11, e22 _ _ _ _ h1, e33 _ _ _ _ h2]
  simp only [vv, ff, firstRegion, apartAll, clash, meets, execOp, evBox, opnd, builtinHM, bin, convHM, fillP, fieldsPlace, solid, inOrd, sliceHM, bound, zOK, appendHM, srcCells, borL, isSl, slLen, storeHM, loadHM, look1, idxAddr, arrAddr, cellsOf, TD.agg, loadedL, loaded, borrowed, isOwn, fieldR, partHM, absorbL, absorb1, setAt, killAV, killL, leafV, getR, isNil, nilV, Array.toList, List.map, bne_self_eq_false, reduceIte, reduceCtorEq, Nat.reduceEqDiff, Nat.reduceAdd, Nat.reduceMul, Nat.reduceSub, Nat.reduceBEq, Nat.reduceLeDiff, Int.reduceEq, Int.reduceLT, Int.reduceLE, Int.reduceGE, Int.reduceGT, Int.reduceBEq, Int.reduceBNe, Int.reduceToNat, Int.reduceNeg, Int.reduceSub, Int.reduceAdd, Int.reduceMul, finish, wkAV, resOf, resa, noSnap, noSnapL, noSnapO, keep, liveKeys, keysL, keysAV, renAV, renL, rr]
theorem e13 (d : Nat) (k v m a k' v' m' a' : Int) (sh p sh' p' : List Int) (c1 c2 c1' c2' : Option Nat) (h1 : sh.length ≤ 2 ^ 39) (h2 : p.length ≤ 2 ^ 39) : evFun E (d+2) 13 [sayV .snap k v sh c1 m a p c2, sayV .snap k' v' sh' c1' m' a' p' c2'] [] =
    some (vb (decide (k = k' ∧ v = v' ∧ sh = sh' ∧ m = m' ∧ a = a' ∧ p = p')), []) := by
  refine evFun_body b13 ?_
  simp only [vv, cc, firstRegion, apartAll, clash, meets, execOp, evBox, opnd, builtinHM, bin, convHM, fillP, fieldsPlace, solid, inOrd, sliceHM, bound, zOK, appendHM, srcCells, borL, isSl, slLen, storeHM, loadHM, look1, idxAddr, arrAddr, cellsOf, TD.agg, loadedL, loaded, borrowed, isOwn, fieldR, partHM, absorbL, absorb1, setAt, killAV, killL, leafV, getR, isNil, nilV, Array.toList, List.map, bne_self_eq_false, reduceIte, reduceCtorEq, Nat.reduceEqDiff, Nat.reduceAdd, Nat.reduceMul, Nat.reduceSub, Nat.reduceBEq, Nat.reduceLeDiff, Int.reduceEq, Int.reduceLT, Int.reduceLE, Int.reduceGE, Int.reduceGT, Int.reduceBEq, Int.reduceBNe, Int.reduceToNat, Int.reduceNeg, Int.reduceSub, Int.reduceAdd, Int.reduceMul, callHM, callOld, isSub, isPathRef, isValA, lendHead, subHM, subCall, plainRow, packA, packL, pack1, lendP, lentOk, getLent, putBack, backK, renAV, renL, rr, Try.f13, e16 _ _ _ _ _ _ _ h1, e39 _ _ _ _ _ _ _ h2]
  repeat' (first | (refine opG_elim (fun h => ?_) (fun h => ?_) <;> simp only [vv, cc, firstRegion, apartAll, clash, meets, execOp, evBox, opnd, builtinHM, bin, convHM, fillP, fieldsPlace, solid, inOrd, sliceHM, bound, zOK, appendHM, srcCells, borL, isSl, slLen, storeHM, loadHM, look1, idxAddr, arrAddr, cellsOf, TD.agg, loadedL, loaded, borrowed, isOwn, fieldR, partHM, absorbL, absorb1, setAt, killAV, killL, leafV, getR, isNil, nilV, Array.toList, List.map, bne_self_eq_false, reduceIte, reduceCtorEq, Nat.reduceEqDiff, Nat.reduceAdd, Nat.reduceMul, Nat.reduceSub, Nat.reduceBEq, Nat.reduceLeDiff, Int.reduceEq, Int.reduceLT, Int.reduceLE, Int.reduceGE, Int.reduceGT, Int.reduceBEq, Int.reduceBNe, Int.reduceToNat, Int.reduceNeg, Int.reduceSub, Int.reduceAdd, Int.reduceMul, callHM, callOld, isSub, isPathRef, isValA, lendHead, subHM, subCall, plainRow, packA, packL, pack1, lendP, lentOk, getLent, putBack, backK, renAV, renL, rr, h, e16 _ _ _ _ _ _ _ h1, e39 _ _ _ _ _ _ _ h2]) | (refine evIf_elim (fun h => ?_) (fun h => ?_) <;> simp only [vv, cc, firstRegion, apartAll, clash, meets, execOp, evBox, opnd, builtinHM, bin, convHM, fillP, fieldsPlace, solid, inOrd, sliceHM, bound, zOK, appendHM, srcCells, borL, isSl, slLen, storeHM, loadHM, look1, idxAddr, arrAddr, cellsOf, TD.agg, loadedL, loaded, borrowed, isOwn, fieldR, partHM, absorbL, absorb1, setAt, killAV, killL, leafV, getR, isNil, nilV, Array.toList, List.map, bne_self_eq_false, reduceIte, reduceCtorEq, Nat.reduceEqDiff, Nat.reduceAdd, Nat.reduceMul, Nat.reduceSub, Nat.reduceBEq, Nat.reduceLeDiff, Int.reduceEq, Int.reduceLT, Int.reduceLE, Int.reduceGE, Int.reduceGT, Int.reduceBEq, Int.reduceBNe, Int.reduceToNat, Int.reduceNeg, Int.reduceSub, Int.reduceAdd, Int.reduceMul, callHM, callOld, isSub, isPathRef, isValA, lendHead, subHM, subCall, plainRow, packA, packL, pack1, lendP, lentOk, getLent, putBack, backK, renAV, renL, rr, h, e16 _ _ _ _ _ _ _ h1, e39 _ _ _ _ _ _ _ h2]))
  all_goals simp only [vv, ff, firstRegion, apartAll, clash, meets, execOp, evBox, opnd, builtinHM, bin, convHM, fillP, fieldsPlace, solid, inOrd, sliceHM, bound, zOK, appendHM, srcCells, borL, isSl, slLen, storeHM, loadHM, look1, idxAddr, arrAddr, cellsOf, TD.agg, loadedL, loaded, borrowed, isOwn, fieldR, partHM, absorbL, absorb1, setAt, killAV, killL, leafV, getR, isNil, nilV, Array.toList, List.map, bne_self_eq_false, reduceIte, reduceCtorEq, Nat.reduceEqDiff, Nat.reduceAdd, Nat.reduceMul, Nat.reduceSub, Nat.reduceBEq, Nat.reduceLeDiff, Int.reduceEq, Int.reduceLT, Int.reduceLE, Int.reduceGE, Int.reduceGT, Int.reduceBEq, Int.reduceBNe, Int.reduceToNat, Int.reduceNeg, Int.reduceSub, Int.reduceAdd, Int.reduceMul, finish, wkAV, resOf, resa, noSnap, noSnapL, noSnapO, keep, liveKeys, keysL, keysAV, renAV, renL, rr]
  all_goals simp_all

end Go.Proofs.Ytlmifbpihlcabaa.VH.S
end

section
namespace Go.Proofs.Ytlmifbpihlcabaa.VH.S
open Go.Proofs
set_option maxRecDepth 100000
set_option maxHeartbeats 4000000
set_option linter.unusedSimpArgs false

theorem e64a (d : Nat) (x : Int) : evFun E (d+1) 64 [u64 x, vi 13] [] = some (u64 (rotU x 13 51), []) := by
  refine evFun_body b64 ?_
  simp only [vv, firstRegion, apartAll, clash, meets, execOp, evBox, opnd, builtinHM, bin, convHM, fillP, fieldsPlace, solid, inOrd, sliceHM, bound, zOK, appendHM, srcCells, borL, isSl, slLen, storeHM, loadHM, look1, idxAddr, arrAddr, cellsOf, TD.agg, loadedL, loaded, borrowed, isOwn, fieldR, partHM, absorbL, absorb1, setAt, killAV, killL, leafV, getR, isNil, nilV, Array.toList, List.map, bne_self_eq_false, reduceIte, reduceCtorEq, Nat.reduceEqDiff, Nat.reduceAdd, Nat.reduceMul, Nat.reduceSub, Nat.reduceBEq, Nat.reduceLeDiff, Int.reduceEq, Int.reduceLT, Int.reduceLE, Int.reduceGE, Int.reduceGT, Int.reduceBEq, Int.reduceBNe, Int.reduceToNat, Int.reduceNeg, Int.reduceSub, Int.reduceAdd, Int.reduceMul, rr, Try.f64, wrap64, Int.reduceSub]
  simp only [vv, ff, firstRegion, apartAll, clash, meets, execOp, evBox, opnd, builtinHM, bin, convHM, fillP, fieldsPlace, solid, inOrd, sliceHM, bound, zOK, appendHM, srcCells, borL, isSl, slLen, storeHM, loadHM, look1, idxAddr, arrAddr, cellsOf, TD.agg, loadedL, loaded, borrowed, isOwn, fieldR, partHM, absorbL, absorb1, setAt, killAV, killL, leafV, getR, isNil, nilV, Array.toList, List.map, bne_self_eq_false, reduceIte, reduceCtorEq, Nat.reduceEqDiff, Nat.reduceAdd, Nat.reduceMul, Nat.reduceSub, Nat.reduceBEq, Nat.reduceLeDiff, Int.reduceEq, Int.reduceLT, Int.reduceLE, Int.reduceGE, Int.reduceGT, Int.reduceBEq, Int.reduceBNe, Int.reduceToNat, Int.reduceNeg, Int.reduceSub, Int.reduceAdd, Int.reduceMul, finish, wkAV, resOf, resa, noSnap, noSnapL, noSnapO, keep, liveKeys, keysL, keysAV, renAV, renL, rr, rotU]
theorem e64b (d : Nat) (x : Int) : evFun E (d+1) 64 [u64 x, vi 29] [] = some (u64 (rotU x 29 35), []) := by
  refine evFun_body b64 ?_
  simp only [vv, firstRegion, apartAll, clash, meets, execOp, evBox, opnd, builtinHM, bin, convHM, fillP, fieldsPlace, solid, inOrd, sliceHM, bound, zOK, appendHM, srcCells, borL, isSl, slLen, storeHM, loadHM, look1, idxAddr, arrAddr, cellsOf, TD.agg, loadedL, loaded, borrowed, isOwn, fieldR, partHM, absorbL, absorb1, setAt, killAV, killL, leafV, getR, isNil, nilV, Array.toList, List.map, bne_self_eq_false, reduceIte, reduceCtorEq, Nat.reduceEqDiff, Nat.reduceAdd, Nat.reduceMul, Nat.reduceSub, Nat.reduceBEq, Nat.reduceLeDiff, Int.reduceEq, Int.reduceLT, Int.reduceLE, Int.reduceGE, Int.reduceGT, Int.reduceBEq, Int.reduceBNe, Int.reduceToNat, Int.reduceNeg, Int.reduceSub, Int.reduceAdd, Int.reduceMul, rr, Try.f64, wrap64, Int.reduceSub]
  simp only [vv, ff, firstRegion, apartAll, clash, meets, execOp, evBox, opnd, builtinHM, bin, convHM, fillP, fieldsPlace, solid, inOrd, sliceHM, bound, zOK, appendHM, srcCells, borL, isSl, slLen, storeHM, loadHM, look1, idxAddr, arrAddr, cellsOf, TD.agg, loadedL, loaded, borrowed, isOwn, fieldR, partHM, absorbL, absorb1, setAt, killAV, killL, leafV, getR, isNil, nilV, Array.toList, List.map, bne_self_eq_false, reduceIte, reduceCtorEq, Nat.reduceEqDiff, Nat.reduceAdd, Nat.reduceMul, Nat.reduceSub, Nat.reduceBEq, Nat.reduceLeDiff, Int.reduceEq, Int.reduceLT, Int.reduceLE, Int.reduceGE, Int.reduceGT, Int.reduceBEq, Int.reduceBNe, Int.reduceToNat, Int.reduceNeg, Int.reduceSub, Int.reduceAdd, Int.reduceMul, finish, wkAV, resOf, resa, noSnap, noSnapL, noSnapO, keep, liveKeys, keysL, keysAV, renAV, renL, rr, rotU]
theorem e64c (d : Nat) (x : Int) : evFun E (d+1) 64 [u64 x, vi 41] [] = some (u64 (rotU x 41 23), []) := by
  refine evFun_body b64 ?_
  simp only [vv, firstRegion, apartAll, clash, meets, execOp, evBox, opnd, builtinHM, bin, convHM, fillP, fieldsPlace, solid, inOrd, sliceHM, bound, zOK, appendHM, srcCells, borL, isSl, slLen, storeHM, loadHM, look1, idxAddr, arrAddr, cellsOf, TD.agg, loadedL, loaded, borrowed, isOwn, fieldR, partHM, absorbL, absorb1, setAt, killAV, killL, leafV, getR, isNil, nilV, Array.toList, List.map, bne_self_eq_false, reduceIte, reduceCtorEq, Nat.reduceEqDiff, Nat.reduceAdd, Nat.reduceMul, Nat.reduceSub, Nat.reduceBEq, Nat.reduceLeDiff, Int.reduceEq, Int.reduceLT, Int.reduceLE, Int.reduceGE, Int.reduceGT, Int.reduceBEq, Int.reduceBNe, Int.reduceToNat, Int.reduceNeg, Int.reduceSub, Int.reduceAdd, Int.reduceMul, rr, Try.f64, wrap64, Int.reduceSub]
  simp only [vv, ff, firstRegion, apartAll, clash, meets, execOp, evBox, opnd, builtinHM, bin, convHM, fillP, fieldsPlace, solid, inOrd, sliceHM, bound, zOK, appendHM, srcCells, borL, isSl, slLen, storeHM, loadHM, look1, idxAddr, arrAddr, cellsOf, TD.agg, loadedL, loaded, borrowed, isOwn, fieldR, partHM, absorbL, absorb1, setAt, killAV, killL, leafV, getR, isNil, nilV, Array.toList, List.map, bne_self_eq_false, reduceIte, reduceCtorEq, Nat.reduceEqDiff, Nat.reduceAdd, Nat.reduceMul, Nat.reduceSub, Nat.reduceBEq, Nat.reduceLeDiff, Int.reduceEq, Int.reduceLT, Int.reduceLE, Int.reduceGE, Int.reduceGT, Int.reduceBEq, Int.reduceBNe, Int.reduceToNat, Int.reduceNeg, Int.reduceSub, Int.reduceAdd, Int.reduceMul, finish, wkAV, resOf, resa, noSnap, noSnapL, noSnapO, keep, liveKeys, keysL, keysAV, renAV, renL, rr, rotU]
theorem a13 : andU 13 63 = 13 := by decide
theorem a29 : andU 29 63 = 29 := by decide
theorem a41 : andU 41 63 = 41 := by decide
theorem s13 : subU 64 13 = 51 := by decide
theorem s29 : subU 64 29 = 35 := by decide
theorem s41 : subU 64 41 = 23 := by decide
theorem e70a (d : Nat) (x : Int) : evFun E (d+1) 70 [u64 x, vi 13] [] = some (u64 (rotU x 13 51), []) := by
  refine evFun_body b70 ?_
  simp only [vv, firstRegion, apartAll, clash, meets, execOp, evBox, opnd, builtinHM, bin, convHM, fillP, fieldsPlace, solid, inOrd, sliceHM, bound, zOK, appendHM, srcCells, borL, isSl, slLen, storeHM, loadHM, look1, idxAddr, arrAddr, cellsOf, TD.agg, loadedL, loaded, borrowed, isOwn, fieldR, partHM, absorbL, absorb1, setAt, killAV, killL, leafV, getR, isNil, nilV, Array.toList, List.map, bne_self_eq_false, reduceIte, reduceCtorEq, Nat.reduceEqDiff, Nat.reduceAdd, Nat.reduceMul, Nat.reduceSub, Nat.reduceBEq, Nat.reduceLeDiff, Int.reduceEq, Int.reduceLT, Int.reduceLE, Int.reduceGE, Int.reduceGT, Int.reduceBEq, Int.reduceBNe, Int.reduceToNat, Int.reduceNeg, Int.reduceSub, Int.reduceAdd, Int.reduceMul, rr, Try.f70, wrapU, a13, s13]
  simp only [vv, ff, firstRegion, apartAll, clash, meets, execOp, evBox, opnd, builtinHM, bin, convHM, fillP, fieldsPlace, solid, inOrd, sliceHM, bound, zOK, appendHM, srcCells, borL, isSl, slLen, storeHM, loadHM, look1, idxAddr, arrAddr, cellsOf, TD.agg, loadedL, loaded, borrowed, isOwn, fieldR, partHM, absorbL, absorb1, setAt, killAV, killL, leafV, getR, isNil, nilV, Array.toList, List.map, bne_self_eq_false, reduceIte, reduceCtorEq, Nat.reduceEqDiff, Nat.reduceAdd, Nat.reduceMul, Nat.reduceSub, Nat.reduceBEq, Nat.reduceLeDiff, Int.reduceEq, Int.reduceLT, Int.reduceLE, Int.reduceGE, Int.reduceGT, Int.reduceBEq, Int.reduceBNe, Int.reduceToNat, Int.reduceNeg, Int.reduceSub, Int.reduceAdd, Int.reduceMul, finish, wkAV, resOf, resa, noSnap, noSnapL, noSnapO, keep, liveKeys, keysL, keysAV, renAV, renL, rr, rotU]
theorem e70b (d : Nat) (x : Int) : evFun E (d+1) 70 [u64 x, vi 29] [] = some (u64 (rotU x 29 35), []) := by
  refine evFun_body b70 ?_
  simp only [vv, firstRegion, apartAll, clash, meets, execOp, evBox, opnd, builtinHM, bin, convHM, fillP, fieldsPlace, solid, inOrd, sliceHM, bound, zOK, appendHM, srcCells, borL, isSl, slLen, storeHM, loadHM, look1, idxAddr, arrAddr, cellsOf, TD.agg, loadedL, loaded, borrowed, isOwn, fieldR, partHM, absorbL, absorb1, setAt, killAV, killL, leafV, getR, isNil, nilV, Array.toList, List.map, bne_self_eq_false, reduceIte, reduceCtorEq, Nat.reduceEqDiff, Nat.reduceAdd, Nat.reduceMul, Nat.reduceSub, Nat.reduceBEq, Nat.reduceLeDiff, Int.reduceEq, Int.reduceLT, Int.reduceLE, Int.reduceGE, Int.reduceGT, Int.reduceBEq, Int.reduceBNe, Int.reduceToNat, Int.reduceNeg, Int.reduceSub, Int.reduceAdd, Int.reduceMul, rr, Try.f70, wrapU, a29, s29]
  simp only [vv, ff, firstRegion, apartAll, clash, meets, execOp, evBox, opnd, builtinHM, bin, convHM, fillP, fieldsPlace, solid, inOrd, sliceHM, bound, zOK, appendHM, srcCells, borL, isSl, slLen, storeHM, loadHM, look1, idxAddr, arrAddr, cellsOf, TD.agg, loadedL, loaded, borrowed, isOwn, fieldR, partHM, absorbL, absorb1, setAt, killAV, killL, leafV, getR, isNil, nilV, Array.toList, List.map, bne_self_eq_false, reduceIte, reduceCtorEq, Nat.reduceEqDiff, Nat.reduceAdd, Nat.reduceMul, Nat.reduceSub, Nat.reduceBEq, Nat.reduceLeDiff, Int.reduceEq, Int.reduceLT, Int.reduceLE, Int.reduceGE, Int.reduceGT, Int.reduceBEq, Int.reduceBNe, Int.reduceToNat, Int.reduceNeg, Int.reduceSub, Int.reduceAdd, Int.reduceMul, finish, wkAV, resOf, resa, noSnap, noSnapL, noSnapO, keep, liveKeys, keysL, keysAV, renAV, renL, rr, rotU]
theorem e70c (d : Nat) (x : Int) : evFun E (d+1) 70 [u64 x, vi 41] [] = some (u64 (rotU x 41 23), []) := by
  refine evFun_body b70 ?_
  simp only [vv, firstRegion, apartAll, clash, meets, execOp, evBox, opnd, builtinHM, bin, convHM, fillP, fieldsPlace, solid, inOrd, sliceHM, bound, zOK, appendHM, srcCells, borL, isSl, slLen, storeHM, loadHM, look1, idxAddr, arrAddr, cellsOf, TD.agg, loadedL, loaded, borrowed, isOwn, fieldR, partHM, absorbL, absorb1, setAt, killAV, killL, leafV, getR, isNil, nilV, Array.toList, List.map, bne_self_eq_false, reduceIte, reduceCtorEq, Nat.reduceEqDiff, Nat.reduceAdd, Nat.reduceMul, Nat.reduceSub, Nat.reduceBEq, Nat.reduceLeDiff, Int.reduceEq, Int.reduceLT, Int.reduceLE, Int.reduceGE, Int.reduceGT, Int.reduceBEq, Int.reduceBNe, Int.reduceToNat, Int.reduceNeg, Int.reduceSub, Int.reduceAdd, Int.reduceMul, rr, Try.f70, wrapU, a41, s41]
  simp only [vv, ff, firstRegion, apartAll, clash, meets, execOp, evBox, opnd, builtinHM, bin, convHM, fillP, fieldsPlace, solid, inOrd, sliceHM, bound, zOK, appendHM, srcCells, borL, isSl, slLen, storeHM, loadHM, look1, idxAddr, arrAddr, cellsOf, TD.agg, loadedL, loaded, borrowed, isOwn, fieldR, partHM, absorbL, absorb1, setAt, killAV, killL, leafV, getR, isNil, nilV, Array.toList, List.map, bne_self_eq_false, reduceIte, reduceCtorEq, Nat.reduceEqDiff, Nat.reduceAdd, Nat.reduceMul, Nat.reduceSub, Nat.reduceBEq, Nat.reduceLeDiff, Int.reduceEq, Int.reduceLT, Int.reduceLE, Int.reduceGE, Int.reduceGT, Int.reduceBEq, Int.reduceBNe, Int.reduceToNat, Int.reduceNeg, Int.reduceSub, Int.reduceAdd, Int.reduceMul, finish, wkAV, resOf, resa, noSnap, noSnapL, noSnapO, keep, liveKeys, keysL, keysAV, renAV, renL, rr, rotU]
theorem e69a (d : Nat) (x : Int) : evFun E (d+2) 69 [u64 x, vi 13] [] = some (u64 (rotU x 13 51), []) := by
  refine evFun_body b69 ?_
  simp only [vv, cc, firstRegion, apartAll, clash, meets, execOp, evBox, opnd, builtinHM, bin, convHM, fillP, fieldsPlace, solid, inOrd, sliceHM, bound, zOK, appendHM, srcCells, borL, isSl, slLen, storeHM, loadHM, look1, idxAddr, arrAddr, cellsOf, TD.agg, loadedL, loaded, borrowed, isOwn, fieldR, partHM, absorbL, absorb1, setAt, killAV, killL, leafV, getR, isNil, nilV, Array.toList, List.map, bne_self_eq_false, reduceIte, reduceCtorEq, Nat.reduceEqDiff, Nat.reduceAdd, Nat.reduceMul, Nat.reduceSub, Nat.reduceBEq, Nat.reduceLeDiff, Int.reduceEq, Int.reduceLT, Int.reduceLE, Int.reduceGE, Int.reduceGT, Int.reduceBEq, Int.reduceBNe, Int.reduceToNat, Int.reduceNeg, Int.reduceSub, Int.reduceAdd, Int.reduceMul, callHM, callOld, isSub, isPathRef, isValA, lendHead, subHM, subCall, plainRow, packA, packL, pack1, lendP, lentOk, getLent, putBack, backK, renAV, renL, rr, Try.f69, e70a]
  simp only [vv, ff, firstRegion, apartAll, clash, meets, execOp, evBox, opnd, builtinHM, bin, convHM, fillP, fieldsPlace, solid, inOrd, sliceHM, bound, zOK, appendHM, srcCells, borL, isSl, slLen, storeHM, loadHM, look1, idxAddr, arrAddr, cellsOf, TD.agg, loadedL, loaded, borrowed, isOwn, fieldR, partHM, absorbL, absorb1, setAt, killAV, killL, leafV, getR, isNil, nilV, Array.toList, List.map, bne_self_eq_false, reduceIte, reduceCtorEq, Nat.reduceEqDiff, Nat.reduceAdd, Nat.reduceMul, Nat.reduceSub, Nat.reduceBEq, Nat.reduceLeDiff, Int.reduceEq, Int.reduceLT, Int.reduceLE, Int.reduceGE, Int.reduceGT, Int.reduceBEq, Int.reduceBNe, Int.reduceToNat, Int.reduceNeg, Int.reduceSub, Int.reduceAdd, Int.reduceMul, finish, wkAV, resOf, resa, noSnap, noSnapL, noSnapO, keep, liveKeys, keysL, keysAV, renAV, renL, rr]
theorem e69b (d : Nat) (x : Int) : evFun E (d+2) 69 [u64 x, vi 29] [] = some (u64 (rotU x 29 35), []) := by
  refine evFun_body b69 ?_
  simp only [vv, cc, firstRegion, apartAll, clash, meets, execOp, evBox, opnd, builtinHM, bin, convHM, fillP, fieldsPlace, solid, inOrd, sliceHM, bound, zOK, appendHM, srcCells, borL, isSl, slLen, storeHM, loadHM, look1, idxAddr, arrAddr, cellsOf, TD.agg, loadedL, loaded, borrowed, isOwn, fieldR, partHM, absorbL, absorb1, setAt, killAV, killL, leafV, getR, isNil, nilV, Array.toList, List.map, bne_self_eq_false, reduceIte, reduceCtorEq, Nat.reduceEqDiff, Nat.reduceAdd, Nat.reduceMul, Nat.reduceSub, Nat.reduceBEq, Nat.reduceLeDiff, Int.reduceEq, Int.reduceLT, Int.reduceLE, Int.reduceGE, Int.reduceGT, Int.reduceBEq, Int.reduceBNe, Int.reduceToNat, Int.reduceNeg, Int.reduceSub, Int.reduceAdd, Int.reduceMul, callHM, callOld, isSub, isPathRef, isValA, lendHead, subHM, subCall, plainRow, packA, packL, pack1, lendP, lentOk, getLent, putBack, backK, renAV, renL, rr, Try.f69, e70b]
  simp only [vv, ff, firstRegion, apartAll, clash, meets, execOp, evBox, opnd, builtinHM, bin, convHM, fillP, fieldsPlace, solid, inOrd, sliceHM, bound, zOK, appendHM, srcCells, borL, isSl, slLen, storeHM, loadHM, look1, idxAddr, arrAddr, cellsOf, TD.agg, loadedL, loaded, borrowed, isOwn, fieldR, partHM, absorbL, absorb1, setAt, killAV, killL, leafV, getR, isNil, nilV, Array.toList, List.map, bne_self_eq_false, reduceIte, reduceCtorEq, Nat.reduceEqDiff, Nat.reduceAdd, Nat.reduceMul, Nat.reduceSub, Nat.reduceBEq, Nat.reduceLeDiff, Int.reduceEq, Int.reduceLT, Int.reduceLE, Int.reduceGE, Int.reduceGT, Int.reduceBEq, Int.reduceBNe, Int.reduceToNat, Int.reduceNeg, Int.reduceSub, Int.reduceAdd, Int.reduceMul, finish, wkAV, resOf, resa, noSnap, noSnapL, noSnapO, keep, liveKeys, keysL, keysAV, renAV, renL, rr]
theorem e69c (d : Nat) (x : Int) : evFun E (d+2) 69 [u64 x, vi 41] [] = some (u64 (rotU x 41 23), []) := by
  refine evFun_body b69 ?_
  simp only [vv, cc, firstRegion, apartAll, clash, meets, execOp, evBox, opnd, builtinHM, bin, convHM, fillP, fieldsPlace, solid, inOrd, sliceHM, bound, zOK, appendHM, srcCells, borL, isSl, slLen, storeHM, loadHM, look1, idxAddr, arrAddr, cellsOf, TD.agg, loadedL, loaded, borrowed, isOwn, fieldR, partHM, absorbL, absorb1, setAt, killAV, killL, leafV, getR, isNil, nilV, Array.toList, List.map, bne_self_eq_false, reduceIte, reduceCtorEq, Nat.reduceEqDiff, Nat.reduceAdd, Nat.reduceMul, Nat.reduceSub, Nat.reduceBEq, Nat.reduceLeDiff, Int.reduceEq, Int.reduceLT, Int.reduceLE, Int.reduceGE, Int.reduceGT, Int.reduceBEq, Int.reduceBNe, Int.reduceToNat, Int.reduceNeg, Int.reduceSub, Int.reduceAdd, Int.reduceMul, callHM, callOld, isSub, isPathRef, isValA, lendHead, subHM, subCall, plainRow, packA, packL, pack1, lendP, lentOk, getLent, putBack, backK, renAV, renL, rr, Try.f69, e70c]
  simp only [vv, ff, firstRegion, apartAll, clash, meets, execOp, evBox, opnd, builtinHM, bin, convHM, fillP, fieldsPlace, solid, inOrd, sliceHM, bound, zOK, appendHM, srcCells, borL, isSl, slLen, storeHM, loadHM, look1, idxAddr, arrAddr, cellsOf, TD.agg, loadedL, loaded, borrowed, isOwn, fieldR, partHM, absorbL, absorb1, setAt, killAV, killL, leafV, getR, isNil, nilV, Array.toList, List.map, bne_self_eq_false, reduceIte, reduceCtorEq, Nat.reduceEqDiff, Nat.reduceAdd, Nat.reduceMul, Nat.reduceSub, Nat.reduceBEq, Nat.reduceLeDiff, Int.reduceEq, Int.reduceLT, Int.reduceLE, Int.reduceGE, Int.reduceGT, Int.reduceBEq, Int.reduceBNe, Int.reduceToNat, Int.reduceNeg, Int.reduceSub, Int.reduceAdd, Int.reduceMul, finish, wkAV, resOf, resa, noSnap, noSnapL, noSnapO, keep, liveKeys, keysL, keysAV, renAV, renL, rr]
theorem e56 (d : Nat) (s : Lane) : evFun E (d+2) 56 [.agg (lane s)] [] = some (.agg (lane (rnd s)), []) := by
  refine evFun_body b56 ?_
  simp only [vv, cc, firstRegion, apartAll, clash, meets, execOp, evBox, opnd, builtinHM, bin, convHM, fillP, fieldsPlace, solid, inOrd, sliceHM, bound, zOK, appendHM, srcCells, borL, isSl, slLen, storeHM, loadHM, look1, idxAddr, arrAddr, cellsOf, TD.agg, loadedL, loaded, borrowed, isOwn, fieldR, partHM, absorbL, absorb1, setAt, killAV, killL, leafV, getR, isNil, nilV, Array.toList, List.map, bne_self_eq_false, reduceIte, reduceCtorEq, Nat.reduceEqDiff, Nat.reduceAdd, Nat.reduceMul, Nat.reduceSub, Nat.reduceBEq, Nat.reduceLeDiff, Int.reduceEq, Int.reduceLT, Int.reduceLE, Int.reduceGE, Int.reduceGT, Int.reduceBEq, Int.reduceBNe, Int.reduceToNat, Int.reduceNeg, Int.reduceSub, Int.reduceAdd, Int.reduceMul, callHM, callOld, isSub, isPathRef, isValA, lendHead, subHM, subCall, plainRow, packA, packL, pack1, lendP, lentOk, getLent, putBack, backK, renAV, renL, rr, Try.f56, e64a, e64b, e64c]
  refine condT (by kernel_rfl) ?_
  refine condT (by kernel_rfl) ?_
  refine condT (by kernel_rfl) ?_
  simp only [vv, ff, firstRegion, apartAll, clash, meets, execOp, evBox, opnd, builtinHM, bin, convHM, fillP, fieldsPlace, solid, inOrd, sliceHM, bound, zOK, appendHM, srcCells, borL, isSl, slLen, storeHM, loadHM, look1, idxAddr, arrAddr, cellsOf, TD.agg, loadedL, loaded, borrowed, isOwn, fieldR, partHM, absorbL, absorb1, setAt, killAV, killL, leafV, getR, isNil, nilV, Array.toList, List.map, bne_self_eq_false, reduceIte, reduceCtorEq, Nat.reduceEqDiff, Nat.reduceAdd, Nat.reduceMul, Nat.reduceSub, Nat.reduceBEq, Nat.reduceLeDiff, Int.reduceEq, Int.reduceLT, Int.reduceLE, Int.reduceGE, Int.reduceGT, Int.reduceBEq, Int.reduceBNe, Int.reduceToNat, Int.reduceNeg, Int.reduceSub, Int.reduceAdd, Int.reduceMul, finish, wkAV, resOf, resa, noSnap, noSnapL, noSnapO, keep, liveKeys, keysL, keysAV, renAV, renL, rr]
  simp only [rnd, addU_assoc, xorU_assoc]
theorem e56a (d : Nat) (a b c : Int) : evFun E (d+2) 56 [.agg [u64 a, u64 b, u64 c]] [] = some (.agg (lane (rnd ⟨a, b, c⟩)), []) := e56 d ⟨a, b, c⟩
theorem e56b (d : Nat) (s : Lane) : evFun E (d+2) 56 [.agg (lane s)] [] = some (.agg (lane (rnd s)), []) := e56 d s
theorem e68 (d : Nat) (s : Lane) (n : Nat) (hn : n ≤ 2 ^ 39) : evFun E (d+3) 68 [.ptr 0 [] 0, vi n] [lane s] = some (.tup [], [some (lane (rndN n s))]) := by
  refine evFun_body b68 ?_
  simp only [vv, cc, firstRegion, apartAll, clash, meets, execOp, evBox, opnd, builtinHM, bin, convHM, fillP, fieldsPlace, solid, inOrd, sliceHM, bound, zOK, appendHM, srcCells, borL, isSl, slLen, storeHM, loadHM, look1, idxAddr, arrAddr, cellsOf, TD.agg, loadedL, loaded, borrowed, isOwn, fieldR, partHM, absorbL, absorb1, setAt, killAV, killL, leafV, getR, isNil, nilV, Array.toList, List.map, bne_self_eq_false, reduceIte, reduceCtorEq, Nat.reduceEqDiff, Nat.reduceAdd, Nat.reduceMul, Nat.reduceSub, Nat.reduceBEq, Nat.reduceLeDiff, Int.reduceEq, Int.reduceLT, Int.reduceLE, Int.reduceGE, Int.reduceGT, Int.reduceBEq, Int.reduceBNe, Int.reduceToNat, Int.reduceNeg, Int.reduceSub, Int.reduceAdd, Int.reduceMul, callHM, callOld, isSub, isPathRef, isValA, lendHead, subHM, subCall, plainRow, packA, packL, pack1, lendP, lentOk, getLent, putBack, backK, renAV, renL, rr, Try.f68]
  refine loop_go (fun i => {T := tp [(0, .ptr 0 [] 0), (4, vi n), (5, vi i)], H := hp [some (lane (rndN i s))], nx := 1}) n ?_ (lt_LF hn) (fun i hi Kn hK => ?_) (fun Kn => ?_)
  · simp only [vv, ff, norm, Array.toList, List.map, bne_self_eq_false, reduceIte, reduceCtorEq, Nat.reduceEqDiff, Nat.reduceAdd, Nat.reduceMul, Nat.reduceSub, Nat.reduceBEq, Nat.reduceLeDiff, Int.reduceEq, Int.reduceLT, Int.reduceLE, Int.reduceGE, Int.reduceGT, Int.reduceBEq, Int.reduceBNe, Int.reduceToNat, Int.reduceNeg, Int.reduceSub, Int.reduceAdd, Int.reduceMul, finish, wkAV, resOf, resa, noSnap, noSnapL, noSnapO, keep, liveKeys, keysL, keysAV, renAV, renL, Int.natCast_zero, rndN]
  · simp only [vv, cc, firstRegion, apartAll, clash, meets, execOp, evBox, opnd, builtinHM, bin, convHM, fillP, fieldsPlace, solid, inOrd, sliceHM, bound, zOK, appendHM, srcCells, borL, isSl, slLen, storeHM, loadHM, look1, idxAddr, arrAddr, cellsOf, TD.agg, loadedL, loaded, borrowed, isOwn, fieldR, partHM, absorbL, absorb1, setAt, killAV, killL, leafV, getR, isNil, nilV, Array.toList, List.map, bne_self_eq_false, reduceIte, reduceCtorEq, Nat.reduceEqDiff, Nat.reduceAdd, Nat.reduceMul, Nat.reduceSub, Nat.reduceBEq, Nat.reduceLeDiff, Int.reduceEq, Int.reduceLT, Int.reduceLE, Int.reduceGE, Int.reduceGT, Int.reduceBEq, Int.reduceBNe, Int.reduceToNat, Int.reduceNeg, Int.reduceSub, Int.reduceAdd, Int.reduceMul, callHM, callOld, isSub, isPathRef, isValA, lendHead, subHM, subCall, plainRow, packA, packL, pack1, lendP, lentOk, getLent, putBack, backK, renAV, renL, rr, lt_ok hi, e69a, e69b, e69c]
    repeat' ((with_reducible refine condT ?_ ?_); (focus kernel_rfl); try simp (maxDischargeDepth := 8) only [vv, cc, bb, firstRegion, apartAll, clash, meets, execOp, evBox, opnd, builtinHM, bin, convHM, fillP, fieldsPlace, solid, inOrd, sliceHM, bound, zOK, appendHM, srcCells, borL, isSl, slLen, storeHM, loadHM, look1, idxAddr, arrAddr, cellsOf, TD.agg, loadedL, loaded, borrowed, isOwn, fieldR, partHM, absorbL, absorb1, setAt, killAV, killL, leafV, getR, isNil, nilV, Array.toList, List.map, bne_self_eq_false, reduceIte, reduceCtorEq, Nat.reduceEqDiff, Nat.reduceAdd, Nat.reduceMul, Nat.reduceSub, Nat.reduceBEq, Nat.reduceLeDiff, Int.reduceEq, Int.reduceLT, Int.reduceLE, Int.reduceGE, Int.reduceGT, Int.reduceBEq, Int.reduceBNe, Int.reduceToNat, Int.reduceNeg, Int.reduceSub, Int.reduceAdd, Int.reduceMul, callHM, callOld, isSub, isPathRef, isValA, lendHead, subHM, subCall, plainRow, packA, packL, pack1, lendP, lentOk, getLent, putBack, backK, renAV, renL, rr, wrap_succ hi hn])
    refine hK _ ?_
    simp only [vv, ff, norm, Array.toList, List.map, bne_self_eq_false, reduceIte, reduceCtorEq, Nat.reduceEqDiff, Nat.reduceAdd, Nat.reduceMul, Nat.reduceSub, Nat.reduceBEq, Nat.reduceLeDiff, Int.reduceEq, Int.reduceLT, Int.reduceLE, Int.reduceGE, Int.reduceGT, Int.reduceBEq, Int.reduceBNe, Int.reduceToNat, Int.reduceNeg, Int.reduceSub, Int.reduceAdd, Int.reduceMul, finish, wkAV, resOf, resa, noSnap, noSnapL, noSnapO, keep, liveKeys, keysL, keysAV, renAV, renL, rndN, rnd, wrap_succ hi hn]
  · simp only [vv, firstRegion, apartAll, clash, meets, execOp, evBox, opnd, builtinHM, bin, convHM, fillP, fieldsPlace, solid, inOrd, sliceHM, bound, zOK, appendHM, srcCells, borL, isSl, slLen, storeHM, loadHM, look1, idxAddr, arrAddr, cellsOf, TD.agg, loadedL, loaded, borrowed, isOwn, fieldR, partHM, absorbL, absorb1, setAt, killAV, killL, leafV, getR, isNil, nilV, Array.toList, List.map, bne_self_eq_false, reduceIte, reduceCtorEq, Nat.reduceEqDiff, Nat.reduceAdd, Nat.reduceMul, Nat.reduceSub, Nat.reduceBEq, Nat.reduceLeDiff, Int.reduceEq, Int.reduceLT, Int.reduceLE, Int.reduceGE, Int.reduceGT, Int.reduceBEq, Int.reduceBNe, Int.reduceToNat, Int.reduceNeg, Int.reduceSub, Int.reduceAdd, Int.reduceMul, rr, lt_no]
    simp only [vv, ff, firstRegion, apartAll, clash, meets, execOp, evBox, opnd, builtinHM, bin, convHM, fillP, fieldsPlace, solid, inOrd, sliceHM, bound, zOK, appendHM, srcCells, borL, isSl, slLen, storeHM, loadHM, look1, idxAddr, arrAddr, cellsOf, TD.agg, loadedL, loaded, borrowed, isOwn, fieldR, partHM, absorbL, absorb1, setAt, killAV, killL, leafV, getR, isNil, nilV, Array.toList, List.map, bne_self_eq_false, reduceIte, reduceCtorEq, Nat.reduceEqDiff, Nat.reduceAdd, Nat.reduceMul, Nat.reduceSub, Nat.reduceBEq, Nat.reduceLeDiff, Int.reduceEq, Int.reduceLT, Int.reduceLE, Int.reduceGE, Int.reduceGT, Int.reduceBEq, Int.reduceBNe, Int.reduceToNat, Int.reduceNeg, Int.reduceSub, Int.reduceAdd, Int.reduceMul, finish, wkAV, resOf, resa, noSnap, noSnapL, noSnapO, keep, liveKeys, keysL, keysAV, renAV, renL, rr]
theorem e68b (d : Nat) (a b c : Int) : evFun E (d+3) 68 [.ptr 0 [] 0, vi 2] [[u64 a, u64 b, u64 c]] = some (.tup [], [some (lane (rndN 2 ⟨a, b, c⟩))]) := e68 d ⟨a, b, c⟩ 2 (by decide)
theorem e68f (d : Nat) (a b c : Int) : evFun E (d+3) 68 [.ptr 0 [] 0, vi 6] [[u64 a, u64 b, u64 c]] = some (.tup [], [some (lane (rndN 6 ⟨a, b, c⟩))]) := e68 d ⟨a, b, c⟩ 6 (by decide)
theorem e66 (d : Nat) (s : Lane) (tg : Tg) (cap : Option Nat) (l : List Int) (hl : l.length ≤ 2 ^ 39) : evFun E (d+4) 66 [.ptr 0 [] 0, .sl tg 1 l.length cap (l.map (iv .u8))] [lane s] = some (.tup [], [some (lane (endL (takeL s l) l.length))]) := by
  refine evFun_body b66 ?_
  simp only [vv, cc, firstRegion, apartAll, clash, meets, execOp, evBox, opnd, builtinHM, bin, convHM, fillP, fieldsPlace, solid, inOrd, sliceHM, bound, zOK, appendHM, srcCells, borL, isSl, slLen, storeHM, loadHM, look1, idxAddr, arrAddr, cellsOf, TD.agg, loadedL, loaded, borrowed, isOwn, fieldR, partHM, absorbL, absorb1, setAt, killAV, killL, leafV, getR, isNil, nilV, Array.toList, List.map, bne_self_eq_false, reduceIte, reduceCtorEq, Nat.reduceEqDiff, Nat.reduceAdd, Nat.reduceMul, Nat.reduceSub, Nat.reduceBEq, Nat.reduceLeDiff, Int.reduceEq, Int.reduceLT, Int.reduceLE, Int.reduceGE, Int.reduceGT, Int.reduceBEq, Int.reduceBNe, Int.reduceToNat, Int.reduceNeg, Int.reduceSub, Int.reduceAdd, Int.reduceMul, callHM, callOld, isSub, isPathRef, isValA, lendHead, subHM, subCall, plainRow, packA, packL, pack1, lendP, lentOk, getLent, putBack, backK, renAV, renL, rr, Try.f66]
  refine loop_go (fun i => {T := tp [(0, .ptr 0 [] 0), (1, .sl tg 1 l.length cap (l.map (iv .u8))), (6, .sl tg 1 l.length cap (l.map (iv .u8))), (7, vi l.length), (8, vi i)], H := hp [some (lane ((l.take i).foldl stepL s))], nx := 1}) l.length ?_ (lt_LF hl) (fun i hi Kn hK => ?_) (fun Kn => ?_)
  · simp only [vv, ff, norm, Array.toList, List.map, bne_self_eq_false, reduceIte, reduceCtorEq, Nat.reduceEqDiff, Nat.reduceAdd, Nat.reduceMul, Nat.reduceSub, Nat.reduceBEq, Nat.reduceLeDiff, Int.reduceEq, Int.reduceLT, Int.reduceLE, Int.reduceGE, Int.reduceGT, Int.reduceBEq, Int.reduceBNe, Int.reduceToNat, Int.reduceNeg, Int.reduceSub, Int.reduceAdd, Int.reduceMul, finish, wkAV, resOf, resa, noSnap, noSnapL, noSnapO, keep, liveKeys, keysL, keysAV, renAV, renL, Int.natCast_zero, List.take_zero, List.foldl_nil]
  · simp only [vv, cc, firstRegion, apartAll, clash, meets, execOp, evBox, opnd, builtinHM, bin, convHM, fillP, fieldsPlace, solid, inOrd, sliceHM, bound, zOK, appendHM, srcCells, borL, isSl, slLen, storeHM, loadHM, look1, idxAddr, arrAddr, cellsOf, TD.agg, loadedL, loaded, borrowed, isOwn, fieldR, partHM, absorbL, absorb1, setAt, killAV, killL, leafV, getR, isNil, nilV, Array.toList, List.map, bne_self_eq_false, reduceIte, reduceCtorEq, Nat.reduceEqDiff, Nat.reduceAdd, Nat.reduceMul, Nat.reduceSub, Nat.reduceBEq, Nat.reduceLeDiff, Int.reduceEq, Int.reduceLT, Int.reduceLE, Int.reduceGE, Int.reduceGT, Int.reduceBEq, Int.reduceBNe, Int.reduceToNat, Int.reduceNeg, Int.reduceSub, Int.reduceAdd, Int.reduceMul, callHM, callOld, isSub, isPathRef, isValA, lendHead, subHM, subCall, plainRow, packA, packL, pack1, lendP, lentOk, getLent, putBack, backK, renAV, renL, rr, lt_ok hi, wrap_succ hi hl, map_get hi, e68b]
    repeat' ((with_reducible refine condT ?_ ?_); (focus kernel_rfl); try simp (maxDischargeDepth := 8) only [vv, cc, bb, firstRegion, apartAll, clash, meets, execOp, evBox, opnd, builtinHM, bin, convHM, fillP, fieldsPlace, solid, inOrd, sliceHM, bound, zOK, appendHM, srcCells, borL, isSl, slLen, storeHM, loadHM, look1, idxAddr, arrAddr, cellsOf, TD.agg, loadedL, loaded, borrowed, isOwn, fieldR, partHM, absorbL, absorb1, setAt, killAV, killL, leafV, getR, isNil, nilV, Array.toList, List.map, bne_self_eq_false, reduceIte, reduceCtorEq, Nat.reduceEqDiff, Nat.reduceAdd, Nat.reduceMul, Nat.reduceSub, Nat.reduceBEq, Nat.reduceLeDiff, Int.reduceEq, Int.reduceLT, Int.reduceLE, Int.reduceGE, Int.reduceGT, Int.reduceBEq, Int.reduceBNe, Int.reduceToNat, Int.reduceNeg, Int.reduceSub, Int.reduceAdd, Int.reduceMul, callHM, callOld, isSub, isPathRef, isValA, lendHead, subHM, subCall, plainRow, packA, packL, pack1, lendP, lentOk, getLent, putBack, backK, renAV, renL, rr, wrap_succ hi hl, e68b])
    refine hK _ ?_
    simp only [vv, ff, norm, Array.toList, List.map, bne_self_eq_false, reduceIte, reduceCtorEq, Nat.reduceEqDiff, Nat.reduceAdd, Nat.reduceMul, Nat.reduceSub, Nat.reduceBEq, Nat.reduceLeDiff, Int.reduceEq, Int.reduceLT, Int.reduceLE, Int.reduceGE, Int.reduceGT, Int.reduceBEq, Int.reduceBNe, Int.reduceToNat, Int.reduceNeg, Int.reduceSub, Int.reduceAdd, Int.reduceMul, finish, wkAV, resOf, resa, noSnap, noSnapL, noSnapO, keep, liveKeys, keysL, keysAV, renAV, renL, wrap_succ hi hl, fold_take _ _ hi, stepL]
  · simp only [vv, cc, firstRegion, apartAll, clash, meets, execOp, evBox, opnd, builtinHM, bin, convHM, fillP, fieldsPlace, solid, inOrd, sliceHM, bound, zOK, appendHM, srcCells, borL, isSl, slLen, storeHM, loadHM, look1, idxAddr, arrAddr, cellsOf, TD.agg, loadedL, loaded, borrowed, isOwn, fieldR, partHM, absorbL, absorb1, setAt, killAV, killL, leafV, getR, isNil, nilV, Array.toList, List.map, bne_self_eq_false, reduceIte, reduceCtorEq, Nat.reduceEqDiff, Nat.reduceAdd, Nat.reduceMul, Nat.reduceSub, Nat.reduceBEq, Nat.reduceLeDiff, Int.reduceEq, Int.reduceLT, Int.reduceLE, Int.reduceGE, Int.reduceGT, Int.reduceBEq, Int.reduceBNe, Int.reduceToNat, Int.reduceNeg, Int.reduceSub, Int.reduceAdd, Int.reduceMul, callHM, callOld, isSub, isPathRef, isValA, lendHead, subHM, subCall, plainRow, packA, packL, pack1, lendP, lentOk, getLent, putBack, backK, renAV, renL, rr, lt_no, e68f]
    repeat' ((with_reducible refine condT ?_ ?_); (focus kernel_rfl); try simp (maxDischargeDepth := 8) only [vv, cc, bb, firstRegion, apartAll, clash, meets, execOp, evBox, opnd, builtinHM, bin, convHM, fillP, fieldsPlace, solid, inOrd, sliceHM, bound, zOK, appendHM, srcCells, borL, isSl, slLen, storeHM, loadHM, look1, idxAddr, arrAddr, cellsOf, TD.agg, loadedL, loaded, borrowed, isOwn, fieldR, partHM, absorbL, absorb1, setAt, killAV, killL, leafV, getR, isNil, nilV, Array.toList, List.map, bne_self_eq_false, reduceIte, reduceCtorEq, Nat.reduceEqDiff, Nat.reduceAdd, Nat.reduceMul, Nat.reduceSub, Nat.reduceBEq, Nat.reduceLeDiff, Int.reduceEq, Int.reduceLT, Int.reduceLE, Int.reduceGE, Int.reduceGT, Int.reduceBEq, Int.reduceBNe, Int.reduceToNat, Int.reduceNeg, Int.reduceSub, Int.reduceAdd, Int.reduceMul, callHM, callOld, isSub, isPathRef, isValA, lendHead, subHM, subCall, plainRow, packA, packL, pack1, lendP, lentOk, getLent, putBack, backK, renAV, renL, rr, e68f])
    simp only [vv, ff, firstRegion, apartAll, clash, meets, execOp, evBox, opnd, builtinHM, bin, convHM, fillP, fieldsPlace, solid, inOrd, sliceHM, bound, zOK, appendHM, srcCells, borL, isSl, slLen, storeHM, loadHM, look1, idxAddr, arrAddr, cellsOf, TD.agg, loadedL, loaded, borrowed, isOwn, fieldR, partHM, absorbL, absorb1, setAt, killAV, killL, leafV, getR, isNil, nilV, Array.toList, List.map, bne_self_eq_false, reduceIte, reduceCtorEq, Nat.reduceEqDiff, Nat.reduceAdd, Nat.reduceMul, Nat.reduceSub, Nat.reduceBEq, Nat.reduceLeDiff, Int.reduceEq, Int.reduceLT, Int.reduceLE, Int.reduceGE, Int.reduceGT, Int.reduceBEq, Int.reduceBNe, Int.reduceToNat, Int.reduceNeg, Int.reduceSub, Int.reduceAdd, Int.reduceMul, finish, wkAV, resOf, resa, noSnap, noSnapL, noSnapO, keep, liveKeys, keysL, keysAV, renAV, renL, rr, endL, takeL, List.take_length]
theorem e66b (d : Nat) (a b c : Int) (tg : Tg) (cap : Option Nat) (l : List Int) (hl : l.length ≤ 2 ^ 39) : evFun E (d+4) 66 [.ptr 0 [] 0, .sl tg 1 l.length cap (l.map (iv .u8))] [[u64 a, u64 b, u64 c]] = some (.tup [], [some (lane (endL (takeL ⟨a, b, c⟩ l) l.length))]) := e66 d ⟨a, b, c⟩ tg cap l hl
theorem e67 (d : Nat) (a b c bits : Int) (hb : 0 ≤ bits) : evFun E (d+1) 67 [.ptr 0 [] 0, vi bits] [[u64 a, u64 b, u64 c]] = some (vi (outL bits ⟨a, b, c⟩), [some [u64 a, u64 b, u64 c]]) := by
  refine evFun_body b67 ?_
  simp only [vv, cc, firstRegion, apartAll, clash, meets, execOp, evBox, opnd, builtinHM, bin, convHM, fillP, fieldsPlace, solid, inOrd, sliceHM, bound, zOK, appendHM, srcCells, borL, isSl, slLen, storeHM, loadHM, look1, idxAddr, arrAddr, cellsOf, TD.agg, loadedL, loaded, borrowed, isOwn, fieldR, partHM, absorbL, absorb1, setAt, killAV, killL, leafV, getR, isNil, nilV, Array.toList, List.map, bne_self_eq_false, reduceIte, reduceCtorEq, Nat.reduceEqDiff, Nat.reduceAdd, Nat.reduceMul, Nat.reduceSub, Nat.reduceBEq, Nat.reduceLeDiff, Int.reduceEq, Int.reduceLT, Int.reduceLE, Int.reduceGE, Int.reduceGT, Int.reduceBEq, Int.reduceBNe, Int.reduceToNat, Int.reduceNeg, Int.reduceSub, Int.reduceAdd, Int.reduceMul, callHM, callOld, isSub, isPathRef, isValA, lendHead, subHM, subCall, plainRow, packA, packL, pack1, lendP, lentOk, getLent, putBack, backK, renAV, renL, rr, Try.f67, decide_eq_true hb]
  repeat' ((with_reducible refine condT ?_ ?_); (focus kernel_rfl); try simp (maxDischargeDepth := 8) only [vv, cc, bb, firstRegion, apartAll, clash, meets, execOp, evBox, opnd, builtinHM, bin, convHM, fillP, fieldsPlace, solid, inOrd, sliceHM, bound, zOK, appendHM, srcCells, borL, isSl, slLen, storeHM, loadHM, look1, idxAddr, arrAddr, cellsOf, TD.agg, loadedL, loaded, borrowed, isOwn, fieldR, partHM, absorbL, absorb1, setAt, killAV, killL, leafV, getR, isNil, nilV, Array.toList, List.map, bne_self_eq_false, reduceIte, reduceCtorEq, Nat.reduceEqDiff, Nat.reduceAdd, Nat.reduceMul, Nat.reduceSub, Nat.reduceBEq, Nat.reduceLeDiff, Int.reduceEq, Int.reduceLT, Int.reduceLE, Int.reduceGE, Int.reduceGT, Int.reduceBEq, Int.reduceBNe, Int.reduceToNat, Int.reduceNeg, Int.reduceSub, Int.reduceAdd, Int.reduceMul, callHM, callOld, isSub, isPathRef, isValA, lendHead, subHM, subCall, plainRow, packA, packL, pack1, lendP, lentOk, getLent, putBack, backK, renAV, renL, rr, decide_eq_true hb])
  simp only [vv, ff, firstRegion, apartAll, clash, meets, execOp, evBox, opnd, builtinHM, bin, convHM, fillP, fieldsPlace, solid, inOrd, sliceHM, bound, zOK, appendHM, srcCells, borL, isSl, slLen, storeHM, loadHM, look1, idxAddr, arrAddr, cellsOf, TD.agg, loadedL, loaded, borrowed, isOwn, fieldR, partHM, absorbL, absorb1, setAt, killAV, killL, leafV, getR, isNil, nilV, Array.toList, List.map, bne_self_eq_false, reduceIte, reduceCtorEq, Nat.reduceEqDiff, Nat.reduceAdd, Nat.reduceMul, Nat.reduceSub, Nat.reduceBEq, Nat.reduceLeDiff, Int.reduceEq, Int.reduceLT, Int.reduceLE, Int.reduceGE, Int.reduceGT, Int.reduceBEq, Int.reduceBNe, Int.reduceToNat, Int.reduceNeg, Int.reduceSub, Int.reduceAdd, Int.reduceMul, finish, wkAV, resOf, resa, noSnap, noSnapL, noSnapO, keep, liveKeys, keysL, keysAV, renAV, renL, rr, outL]
theorem e65 (d : Nat) (x : Int) : evFun E (d+2) 65 [vi x] [] = some (vb (decide (x ≥ 2) && decide (x ≤ 60)), []) := by
  refine evFun_body b65 ?_
  simp only [vv, cc, firstRegion, apartAll, clash, meets, execOp, evBox, opnd, builtinHM, bin, convHM, fillP, fieldsPlace, solid, inOrd, sliceHM, bound, zOK, appendHM, srcCells, borL, isSl, slLen, storeHM, loadHM, look1, idxAddr, arrAddr, cellsOf, TD.agg, loadedL, loaded, borrowed, isOwn, fieldR, partHM, absorbL, absorb1, setAt, killAV, killL, leafV, getR, isNil, nilV, Array.toList, List.map, bne_self_eq_false, reduceIte, reduceCtorEq, Nat.reduceEqDiff, Nat.reduceAdd, Nat.reduceMul, Nat.reduceSub, Nat.reduceBEq, Nat.reduceLeDiff, Int.reduceEq, Int.reduceLT, Int.reduceLE, Int.reduceGE, Int.reduceGT, Int.reduceBEq, Int.reduceBNe, Int.reduceToNat, Int.reduceNeg, Int.reduceSub, Int.reduceAdd, Int.reduceMul, callHM, callOld, isSub, isPathRef, isValA, lendHead, subHM, subCall, plainRow, packA, packL, pack1, lendP, lentOk, getLent, putBack, backK, renAV, renL, rr, Try.f65, e34]
  simp only [vv, ff, firstRegion, apartAll, clash, meets, execOp, evBox, opnd, builtinHM, bin, convHM, fillP, fieldsPlace, solid, inOrd, sliceHM, bound, zOK, appendHM, srcCells, borL, isSl, slLen, storeHM, loadHM, look1, idxAddr, arrAddr, cellsOf, TD.agg, loadedL, loaded, borrowed, isOwn, fieldR, partHM, absorbL, absorb1, setAt, killAV, killL, leafV, getR, isNil, nilV, Array.toList, List.map, bne_self_eq_false, reduceIte, reduceCtorEq, Nat.reduceEqDiff, Nat.reduceAdd, Nat.reduceMul, Nat.reduceSub, Nat.reduceBEq, Nat.reduceLeDiff, Int.reduceEq, Int.reduceLT, Int.reduceLE, Int.reduceGE, Int.reduceGT, Int.reduceBEq, Int.reduceBNe, Int.reduceToNat, Int.reduceNeg, Int.reduceSub, Int.reduceAdd, Int.reduceMul, finish, wkAV, resOf, resa, noSnap, noSnapL, noSnapO, keep, liveKeys, keysL, keysAV, renAV, renL, rr]
def digV (bits : Int) (l : List Int) : Int := if 2 ≤ bits ∧ bits ≤ 60 ∧ l.length ≤ 4000 then dig bits l else -1
theorem e59 (d : Nat) (bits : Int) (tg : Tg) (cap : Option Nat) (l : List Int) (h1 : 2 ≤ bits) (h2 : bits ≤ 60) (h3 : l.length ≤ 4000) : evFun E (d+5) 59 [vi bits, .sl tg 1 l.length cap (l.map (iv .u8)), vi 1] [] = some (.tup [.ref 0 [] 1 0 1 none, vb true], [some [vi (dig bits l)]]) := by
  refine evFun_body b59 ?_
  have q1 : decide (bits ≥ 2) = true := by simp; omega
  have q2 : decide (bits ≤ 60) = true := by simp; omega
  have q3 : decide ((l.length : Int) > 4000) = false := by simp; omega
  have q4 : decide (0 ≤ bits) = true := by simp; omega
  have h1' : 0 ≤ bits := by omega
  simp only [vv, cc, firstRegion, apartAll, clash, meets, execOp, evBox, opnd, builtinHM, bin, convHM, fillP, fieldsPlace, solid, inOrd, sliceHM, bound, zOK, appendHM, srcCells, borL, isSl, slLen, storeHM, loadHM, look1, idxAddr, arrAddr, cellsOf, TD.agg, loadedL, loaded, borrowed, isOwn, fieldR, partHM, absorbL, absorb1, setAt, killAV, killL, leafV, getR, isNil, nilV, Array.toList, List.map, bne_self_eq_false, reduceIte, reduceCtorEq, Nat.reduceEqDiff, Nat.reduceAdd, Nat.reduceMul, Nat.reduceSub, Nat.reduceBEq, Nat.reduceLeDiff, Int.reduceEq, Int.reduceLT, Int.reduceLE, Int.reduceGE, Int.reduceGT, Int.reduceBEq, Int.reduceBNe, Int.reduceToNat, Int.reduceNeg, Int.reduceSub, Int.reduceAdd, Int.reduceMul, callHM, callOld, isSub, isPathRef, isValA, lendHead, subHM, subCall, plainRow, packA, packL, pack1, lendP, lentOk, getLent, putBack, backK, renAV, renL, rr, Try.f59, e65, e34, q1, q2, q3, e66b _ _ _ _ _ _ _ (show l.length ≤ 2 ^ 39 by omega)]
  simp only [vv, cc, ff, uu, norm, firstRegion, apartAll, clash, meets, execOp, evBox, opnd, builtinHM, bin, convHM, fillP, fieldsPlace, solid, inOrd, sliceHM, bound, zOK, appendHM, srcCells, borL, isSl, slLen, storeHM, loadHM, look1, idxAddr, arrAddr, cellsOf, TD.agg, loadedL, loaded, borrowed, isOwn, fieldR, partHM, absorbL, absorb1, setAt, killAV, killL, leafV, getR, isNil, nilV, Array.toList, List.map, bne_self_eq_false, reduceIte, reduceCtorEq, Nat.reduceEqDiff, Nat.reduceAdd, Nat.reduceMul, Nat.reduceSub, Nat.reduceBEq, Nat.reduceLeDiff, Int.reduceEq, Int.reduceLT, Int.reduceLE, Int.reduceGE, Int.reduceGT, Int.reduceBEq, Int.reduceBNe, Int.reduceToNat, Int.reduceNeg, Int.reduceSub, Int.reduceAdd, Int.reduceMul, callHM, callOld, isSub, isPathRef, isValA, lendHead, subHM, subCall, plainRow, packA, packL, pack1, lendP, lentOk, getLent, putBack, backK, renAV, renL, finish, wkAV, resOf, resa, noSnap, noSnapL, noSnapO, keep, liveKeys, keysL, keysAV, rr, e34, e67 _ _ _ _ _ h1', e68b]
  simp only [vv, ff, firstRegion, apartAll, clash, meets, execOp, evBox, opnd, builtinHM, bin, convHM, fillP, fieldsPlace, solid, inOrd, sliceHM, bound, zOK, appendHM, srcCells, borL, isSl, slLen, storeHM, loadHM, look1, idxAddr, arrAddr, cellsOf, TD.agg, loadedL, loaded, borrowed, isOwn, fieldR, partHM, absorbL, absorb1, setAt, killAV, killL, leafV, getR, isNil, nilV, Array.toList, List.map, bne_self_eq_false, reduceIte, reduceCtorEq, Nat.reduceEqDiff, Nat.reduceAdd, Nat.reduceMul, Nat.reduceSub, Nat.reduceBEq, Nat.reduceLeDiff, Int.reduceEq, Int.reduceLT, Int.reduceLE, Int.reduceGE, Int.reduceGT, Int.reduceBEq, Int.reduceBNe, Int.reduceToNat, Int.reduceNeg, Int.reduceSub, Int.reduceAdd, Int.reduceMul, finish, wkAV, resOf, resa, noSnap, noSnapL, noSnapO, keep, liveKeys, keysL, keysAV, renAV, renL, rr, dig]
theorem e47 (d : Nat) (bits : Int) (tg : Tg) (cap : Option Nat) (l : List Int) (h1 : 2 ≤ bits) (h2 : bits ≤ 60) (h3 : l.length ≤ 4000) : evFun E (d+6) 47 [vi bits, .sl tg 1 l.length cap (l.map (iv .u8))] [] = some (vi (dig bits l), []) := by
  refine evFun_body b47 ?_
  simp only [vv, cc, firstRegion, apartAll, clash, meets, execOp, evBox, opnd, builtinHM, bin, convHM, fillP, fieldsPlace, solid, inOrd, sliceHM, bound, zOK, appendHM, srcCells, borL, isSl, slLen, storeHM, loadHM, look1, idxAddr, arrAddr, cellsOf, TD.agg, loadedL, loaded, borrowed, isOwn, fieldR, partHM, absorbL, absorb1, setAt, killAV, killL, leafV, getR, isNil, nilV, Array.toList, List.map, bne_self_eq_false, reduceIte, reduceCtorEq, Nat.reduceEqDiff, Nat.reduceAdd, Nat.reduceMul, Nat.reduceSub, Nat.reduceBEq, Nat.reduceLeDiff, Int.reduceEq, Int.reduceLT, Int.reduceLE, Int.reduceGE, Int.reduceGT, Int.reduceBEq, Int.reduceBNe, Int.reduceToNat, Int.reduceNeg, Int.reduceSub, Int.reduceAdd, Int.reduceMul, callHM, callOld, isSub, isPathRef, isValA, lendHead, subHM, subCall, plainRow, packA, packL, pack1, lendP, lentOk, getLent, putBack, backK, renAV, renL, rr, Try.f47, e59 _ _ _ _ _ h1 h2 h3]
  simp only [vv, ff, firstRegion, apartAll, clash, meets, execOp, evBox, opnd, builtinHM, bin, convHM, fillP, fieldsPlace, solid, inOrd, sliceHM, bound, zOK, appendHM, srcCells, borL, isSl, slLen, storeHM, loadHM, look1, idxAddr, arrAddr, cellsOf, TD.agg, loadedL, loaded, borrowed, isOwn, fieldR, partHM, absorbL, absorb1, setAt, killAV, killL, leafV, getR, isNil, nilV, Array.toList, List.map, bne_self_eq_false, reduceIte, reduceCtorEq, Nat.reduceEqDiff, Nat.reduceAdd, Nat.reduceMul, Nat.reduceSub, Nat.reduceBEq, Nat.reduceLeDiff, Int.reduceEq, Int.reduceLT, Int.reduceLE, Int.reduceGE, Int.reduceGT, Int.reduceBEq, Int.reduceBNe, Int.reduceToNat, Int.reduceNeg, Int.reduceSub, Int.reduceAdd, Int.reduceMul, finish, wkAV, resOf, resa, noSnap, noSnapL, noSnapO, keep, liveKeys, keysL, keysAV, renAV, renL, rr]
theorem e57 (d : Nat) (bits : Int) (s : Lane) (hb : 0 ≤ bits) : evFun E (d+3) 57 [vi bits, .agg (lane s), vi 6] [] = some (vi (outL bits (rndN 6 s)), []) := by
  refine evFun_body b57 ?_
  have q4 : decide (0 ≤ bits) = true := by simp; omega
  simp only [vv, cc, firstRegion, apartAll, clash, meets, execOp, evBox, opnd, builtinHM, bin, convHM, fillP, fieldsPlace, solid, inOrd, sliceHM, bound, zOK, appendHM, srcCells, borL, isSl, slLen, storeHM, loadHM, look1, idxAddr, arrAddr, cellsOf, TD.agg, loadedL, loaded, borrowed, isOwn, fieldR, partHM, absorbL, absorb1, setAt, killAV, killL, leafV, getR, isNil, nilV, Array.toList, List.map, bne_self_eq_false, reduceIte, reduceCtorEq, Nat.reduceEqDiff, Nat.reduceAdd, Nat.reduceMul, Nat.reduceSub, Nat.reduceBEq, Nat.reduceLeDiff, Int.reduceEq, Int.reduceLT, Int.reduceLE, Int.reduceGE, Int.reduceGT, Int.reduceBEq, Int.reduceBNe, Int.reduceToNat, Int.reduceNeg, Int.reduceSub, Int.reduceAdd, Int.reduceMul, callHM, callOld, isSub, isPathRef, isValA, lendHead, subHM, subCall, plainRow, packA, packL, pack1, lendP, lentOk, getLent, putBack, backK, renAV, renL, rr, Try.f57]
  refine loop_go (fun i => {T := tp [(0, vi bits), (2, vi 6), (4, .ptr 0 [] 0), (7, vi i)], H := hp [some (lane (rndN i s))], nx := 1}) 6 ?_ (lt_LF (by decide)) (fun i hi Kn hK => ?_) (fun Kn => ?_)
  · simp only [vv, ff, norm, Array.toList, List.map, bne_self_eq_false, reduceIte, reduceCtorEq, Nat.reduceEqDiff, Nat.reduceAdd, Nat.reduceMul, Nat.reduceSub, Nat.reduceBEq, Nat.reduceLeDiff, Int.reduceEq, Int.reduceLT, Int.reduceLE, Int.reduceGE, Int.reduceGT, Int.reduceBEq, Int.reduceBNe, Int.reduceToNat, Int.reduceNeg, Int.reduceSub, Int.reduceAdd, Int.reduceMul, finish, wkAV, resOf, resa, noSnap, noSnapL, noSnapO, keep, liveKeys, keysL, keysAV, renAV, renL, Int.natCast_zero, rndN]
  · have q5 : decide ((i : Int) < 6) = true := by simp; omega
    have w5 : IntKind.i64.wrap ((i : Int) + 1) = ((i + 1 : Nat) : Int) := wrap_succ hi (by decide)
    simp only [vv, cc, firstRegion, apartAll, clash, meets, execOp, evBox, opnd, builtinHM, bin, convHM, fillP, fieldsPlace, solid, inOrd, sliceHM, bound, zOK, appendHM, srcCells, borL, isSl, slLen, storeHM, loadHM, look1, idxAddr, arrAddr, cellsOf, TD.agg, loadedL, loaded, borrowed, isOwn, fieldR, partHM, absorbL, absorb1, setAt, killAV, killL, leafV, getR, isNil, nilV, Array.toList, List.map, bne_self_eq_false, reduceIte, reduceCtorEq, Nat.reduceEqDiff, Nat.reduceAdd, Nat.reduceMul, Nat.reduceSub, Nat.reduceBEq, Nat.reduceLeDiff, Int.reduceEq, Int.reduceLT, Int.reduceLE, Int.reduceGE, Int.reduceGT, Int.reduceBEq, Int.reduceBNe, Int.reduceToNat, Int.reduceNeg, Int.reduceSub, Int.reduceAdd, Int.reduceMul, callHM, callOld, isSub, isPathRef, isValA, lendHead, subHM, subCall, plainRow, packA, packL, pack1, lendP, lentOk, getLent, putBack, backK, renAV, renL, rr, q5, w5, e56 d (rndN i s)]
    refine hK _ ?_
    simp only [vv, ff, norm, Array.toList, List.map, bne_self_eq_false, reduceIte, reduceCtorEq, Nat.reduceEqDiff, Nat.reduceAdd, Nat.reduceMul, Nat.reduceSub, Nat.reduceBEq, Nat.reduceLeDiff, Int.reduceEq, Int.reduceLT, Int.reduceLE, Int.reduceGE, Int.reduceGT, Int.reduceBEq, Int.reduceBNe, Int.reduceToNat, Int.reduceNeg, Int.reduceSub, Int.reduceAdd, Int.reduceMul, finish, wkAV, resOf, resa, noSnap, noSnapL, noSnapO, keep, liveKeys, keysL, keysAV, renAV, renL, w5, rndN]
  · simp only [vv, cc, firstRegion, apartAll, clash, meets, execOp, evBox, opnd, builtinHM, bin, convHM, fillP, fieldsPlace, solid, inOrd, sliceHM, bound, zOK, appendHM, srcCells, borL, isSl, slLen, storeHM, loadHM, look1, idxAddr, arrAddr, cellsOf, TD.agg, loadedL, loaded, borrowed, isOwn, fieldR, partHM, absorbL, absorb1, setAt, killAV, killL, leafV, getR, isNil, nilV, Array.toList, List.map, bne_self_eq_false, reduceIte, reduceCtorEq, Nat.reduceEqDiff, Nat.reduceAdd, Nat.reduceMul, Nat.reduceSub, Nat.reduceBEq, Nat.reduceLeDiff, Int.reduceEq, Int.reduceLT, Int.reduceLE, Int.reduceGE, Int.reduceGT, Int.reduceBEq, Int.reduceBNe, Int.reduceToNat, Int.reduceNeg, Int.reduceSub, Int.reduceAdd, Int.reduceMul, callHM, callOld, isSub, isPathRef, isValA, lendHead, subHM, subCall, plainRow, packA, packL, pack1, lendP, lentOk, getLent, putBack, backK, renAV, renL, rr, q4]
    repeat' ((with_reducible refine condT ?_ ?_); (focus kernel_rfl); try simp (maxDischargeDepth := 8) only [vv, cc, bb, firstRegion, apartAll, clash, meets, execOp, evBox, opnd, builtinHM, bin, convHM, fillP, fieldsPlace, solid, inOrd, sliceHM, bound, zOK, appendHM, srcCells, borL, isSl, slLen, storeHM, loadHM, look1, idxAddr, arrAddr, cellsOf, TD.agg, loadedL, loaded, borrowed, isOwn, fieldR, partHM, absorbL, absorb1, setAt, killAV, killL, leafV, getR, isNil, nilV, Array.toList, List.map, bne_self_eq_false, reduceIte, reduceCtorEq, Nat.reduceEqDiff, Nat.reduceAdd, Nat.reduceMul, Nat.reduceSub, Nat.reduceBEq, Nat.reduceLeDiff, Int.reduceEq, Int.reduceLT, Int.reduceLE, Int.reduceGE, Int.reduceGT, Int.reduceBEq, Int.reduceBNe, Int.reduceToNat, Int.reduceNeg, Int.reduceSub, Int.reduceAdd, Int.reduceMul, callHM, callOld, isSub, isPathRef, isValA, lendHead, subHM, subCall, plainRow, packA, packL, pack1, lendP, lentOk, getLent, putBack, backK, renAV, renL, rr, q4])
    simp only [vv, ff, firstRegion, apartAll, clash, meets, execOp, evBox, opnd, builtinHM, bin, convHM, fillP, fieldsPlace, solid, inOrd, sliceHM, bound, zOK, appendHM, srcCells, borL, isSl, slLen, storeHM, loadHM, look1, idxAddr, arrAddr, cellsOf, TD.agg, loadedL, loaded, borrowed, isOwn, fieldR, partHM, absorbL, absorb1, setAt, killAV, killL, leafV, getR, isNil, nilV, Array.toList, List.map, bne_self_eq_false, reduceIte, reduceCtorEq, Nat.reduceEqDiff, Nat.reduceAdd, Nat.reduceMul, Nat.reduceSub, Nat.reduceBEq, Nat.reduceLeDiff, Int.reduceEq, Int.reduceLT, Int.reduceLE, Int.reduceGE, Int.reduceGT, Int.reduceBEq, Int.reduceBNe, Int.reduceToNat, Int.reduceNeg, Int.reduceSub, Int.reduceAdd, Int.reduceMul, finish, wkAV, resOf, resa, noSnap, noSnapL, noSnapO, keep, liveKeys, keysL, keysAV, renAV, renL, rr, outL]
theorem e57a (d : Nat) (bits a b c : Int) (hb : 0 ≤ bits) : evFun E (d+3) 57 [vi bits, .agg [u64 a, u64 b, u64 c], vi 6] [] = some (vi (outL bits (rndN 6 ⟨a, b, c⟩)), []) := e57 d bits ⟨a, b, c⟩ hb
theorem e41 (d : Nat) (bits : Int) (tg : Tg) (cap : Option Nat) (l : List Int) (h1 : 2 ≤ bits) (h2 : bits ≤ 60) (h3 : l.length ≤ 4000) : evFun E (d+4) 41 [vi bits, .sl tg 1 l.length cap (l.map (iv .u8))] [] = some (vi (dig bits l), []) := by
  refine evFun_body b41 ?_
  have q1 : decide (bits ≥ 2) = true := by simp; omega
  have q2 : decide (bits ≤ 60) = true := by simp; omega
  have q3 : decide ((l.length : Int) > 4000) = false := by simp; omega
  have h1' : 0 ≤ bits := by omega
  have hl : l.length ≤ 2 ^ 39 := by omega
  simp only [vv, cc, firstRegion, apartAll, clash, meets, execOp, evBox, opnd, builtinHM, bin, convHM, fillP, fieldsPlace, solid, inOrd, sliceHM, bound, zOK, appendHM, srcCells, borL, isSl, slLen, storeHM, loadHM, look1, idxAddr, arrAddr, cellsOf, TD.agg, loadedL, loaded, borrowed, isOwn, fieldR, partHM, absorbL, absorb1, setAt, killAV, killL, leafV, getR, isNil, nilV, Array.toList, List.map, bne_self_eq_false, reduceIte, reduceCtorEq, Nat.reduceEqDiff, Nat.reduceAdd, Nat.reduceMul, Nat.reduceSub, Nat.reduceBEq, Nat.reduceLeDiff, Int.reduceEq, Int.reduceLT, Int.reduceLE, Int.reduceGE, Int.reduceGT, Int.reduceBEq, Int.reduceBNe, Int.reduceToNat, Int.reduceNeg, Int.reduceSub, Int.reduceAdd, Int.reduceMul, callHM, callOld, isSub, isPathRef, isValA, lendHead, subHM, subCall, plainRow, packA, packL, pack1, lendP, lentOk, getLent, putBack, backK, renAV, renL, rr, Try.f41, e32, q1, q2, q3]

  refine loop_go (fun i => {T := tp [(0, vi bits), (1, .sl tg 1 l.length cap (l.map (iv .u8))), (5, .ptr 0 [] 0), (6, vi i)], H := hp [some (lane ((l.take i).foldl stepL ⟨1, 2, 3⟩))], nx := 1}) l.length ?_ (lt_LF hl) (fun i hi Kn hK => ?_) (fun Kn => ?_)
  · simp only [vv, ff, norm, Array.toList, List.map, bne_self_eq_false, reduceIte, reduceCtorEq, Nat.reduceEqDiff, Nat.reduceAdd, Nat.reduceMul, Nat.reduceSub, Nat.reduceBEq, Nat.reduceLeDiff, Int.reduceEq, Int.reduceLT, Int.reduceLE, Int.reduceGE, Int.reduceGT, Int.reduceBEq, Int.reduceBNe, Int.reduceToNat, Int.reduceNeg, Int.reduceSub, Int.reduceAdd, Int.reduceMul, finish, wkAV, resOf, resa, noSnap, noSnapL, noSnapO, keep, liveKeys, keysL, keysAV, renAV, renL, Int.natCast_zero, List.take_zero, List.foldl_nil]
  · simp only [vv, cc, firstRegion, apartAll, clash, meets, execOp, evBox, opnd, builtinHM, bin, convHM, fillP, fieldsPlace, solid, inOrd, sliceHM, bound, zOK, appendHM, srcCells, borL, isSl, slLen, storeHM, loadHM, look1, idxAddr, arrAddr, cellsOf, TD.agg, loadedL, loaded, borrowed, isOwn, fieldR, partHM, absorbL, absorb1, setAt, killAV, killL, leafV, getR, isNil, nilV, Array.toList, List.map, bne_self_eq_false, reduceIte, reduceCtorEq, Nat.reduceEqDiff, Nat.reduceAdd, Nat.reduceMul, Nat.reduceSub, Nat.reduceBEq, Nat.reduceLeDiff, Int.reduceEq, Int.reduceLT, Int.reduceLE, Int.reduceGE, Int.reduceGT, Int.reduceBEq, Int.reduceBNe, Int.reduceToNat, Int.reduceNeg, Int.reduceSub, Int.reduceAdd, Int.reduceMul, callHM, callOld, isSub, isPathRef, isValA, lendHead, subHM, subCall, plainRow, packA, packL, pack1, lendP, lentOk, getLent, putBack, backK, renAV, renL, rr, lt_ok hi, wrap_succ hi hl, map_get hi, e56a, e56b]
    repeat' ((with_reducible refine condT ?_ ?_); (focus kernel_rfl); try simp (maxDischargeDepth := 8) only [vv, cc, bb, firstRegion, apartAll, clash, meets, execOp, evBox, opnd, builtinHM, bin, convHM, fillP, fieldsPlace, solid, inOrd, sliceHM, bound, zOK, appendHM, srcCells, borL, isSl, slLen, storeHM, loadHM, look1, idxAddr, arrAddr, cellsOf, TD.agg, loadedL, loaded, borrowed, isOwn, fieldR, partHM, absorbL, absorb1, setAt, killAV, killL, leafV, getR, isNil, nilV, Array.toList, List.map, bne_self_eq_false, reduceIte, reduceCtorEq, Nat.reduceEqDiff, Nat.reduceAdd, Nat.reduceMul, Nat.reduceSub, Nat.reduceBEq, Nat.reduceLeDiff, Int.reduceEq, Int.reduceLT, Int.reduceLE, Int.reduceGE, Int.reduceGT, Int.reduceBEq, Int.reduceBNe, Int.reduceToNat, Int.reduceNeg, Int.reduceSub, Int.reduceAdd, Int.reduceMul, callHM, callOld, isSub, isPathRef, isValA, lendHead, subHM, subCall, plainRow, packA, packL, pack1, lendP, lentOk, getLent, putBack, backK, renAV, renL, rr, wrap_succ hi hl, e56a, e56b])

    refine hK _ ?_
    simp only [vv, ff, norm, Array.toList, List.map, bne_self_eq_false, reduceIte, reduceCtorEq, Nat.reduceEqDiff, Nat.reduceAdd, Nat.reduceMul, Nat.reduceSub, Nat.reduceBEq, Nat.reduceLeDiff, Int.reduceEq, Int.reduceLT, Int.reduceLE, Int.reduceGE, Int.reduceGT, Int.reduceBEq, Int.reduceBNe, Int.reduceToNat, Int.reduceNeg, Int.reduceSub, Int.reduceAdd, Int.reduceMul, finish, wkAV, resOf, resa, noSnap, noSnapL, noSnapO, keep, liveKeys, keysL, keysAV, renAV, renL, wrap_succ hi hl, fold_take _ _ hi, stepL, rndN]
  · simp only [vv, cc, firstRegion, apartAll, clash, meets, execOp, evBox, opnd, builtinHM, bin, convHM, fillP, fieldsPlace, solid, inOrd, sliceHM, bound, zOK, appendHM, srcCells, borL, isSl, slLen, storeHM, loadHM, look1, idxAddr, arrAddr, cellsOf, TD.agg, loadedL, loaded, borrowed, isOwn, fieldR, partHM, absorbL, absorb1, setAt, killAV, killL, leafV, getR, isNil, nilV, Array.toList, List.map, bne_self_eq_false, reduceIte, reduceCtorEq, Nat.reduceEqDiff, Nat.reduceAdd, Nat.reduceMul, Nat.reduceSub, Nat.reduceBEq, Nat.reduceLeDiff, Int.reduceEq, Int.reduceLT, Int.reduceLE, Int.reduceGE, Int.reduceGT, Int.reduceBEq, Int.reduceBNe, Int.reduceToNat, Int.reduceNeg, Int.reduceSub, Int.reduceAdd, Int.reduceMul, callHM, callOld, isSub, isPathRef, isValA, lendHead, subHM, subCall, plainRow, packA, packL, pack1, lendP, lentOk, getLent, putBack, backK, renAV, renL, rr, lt_no, e57a _ _ _ _ _ h1']
    repeat' ((with_reducible refine condT ?_ ?_); (focus kernel_rfl); try simp (maxDischargeDepth := 8) only [vv, cc, bb, firstRegion, apartAll, clash, meets, execOp, evBox, opnd, builtinHM, bin, convHM, fillP, fieldsPlace, solid, inOrd, sliceHM, bound, zOK, appendHM, srcCells, borL, isSl, slLen, storeHM, loadHM, look1, idxAddr, arrAddr, cellsOf, TD.agg, loadedL, loaded, borrowed, isOwn, fieldR, partHM, absorbL, absorb1, setAt, killAV, killL, leafV, getR, isNil, nilV, Array.toList, List.map, bne_self_eq_false, reduceIte, reduceCtorEq, Nat.reduceEqDiff, Nat.reduceAdd, Nat.reduceMul, Nat.reduceSub, Nat.reduceBEq, Nat.reduceLeDiff, Int.reduceEq, Int.reduceLT, Int.reduceLE, Int.reduceGE, Int.reduceGT, Int.reduceBEq, Int.reduceBNe, Int.reduceToNat, Int.reduceNeg, Int.reduceSub, Int.reduceAdd, Int.reduceMul, callHM, callOld, isSub, isPathRef, isValA, lendHead, subHM, subCall, plainRow, packA, packL, pack1, lendP, lentOk, getLent, putBack, backK, renAV, renL, rr, e57a _ _ _ _ _ h1'])
    simp only [vv, ff, firstRegion, apartAll, clash, meets, execOp, evBox, opnd, builtinHM, bin, convHM, fillP, fieldsPlace, solid, inOrd, sliceHM, bound, zOK, appendHM, srcCells, borL, isSl, slLen, storeHM, loadHM, look1, idxAddr, arrAddr, cellsOf, TD.agg, loadedL, loaded, borrowed, isOwn, fieldR, partHM, absorbL, absorb1, setAt, killAV, killL, leafV, getR, isNil, nilV, Array.toList, List.map, bne_self_eq_false, reduceIte, reduceCtorEq, Nat.reduceEqDiff, Nat.reduceAdd, Nat.reduceMul, Nat.reduceSub, Nat.reduceBEq, Nat.reduceLeDiff, Int.reduceEq, Int.reduceLT, Int.reduceLE, Int.reduceGE, Int.reduceGT, Int.reduceBEq, Int.reduceBNe, Int.reduceToNat, Int.reduceNeg, Int.reduceSub, Int.reduceAdd, Int.reduceMul, finish, wkAV, resOf, resa, noSnap, noSnapL, noSnapO, keep, liveKeys, keysL, keysAV, renAV, renL, rr, dig, endL, takeL, List.take_length]
end Go.Proofs.Ytlmifbpihlcabaa.VH.S
end

section
namespace Go.Proofs.Ytlmifbpihlcabaa.VH.S
open Go.Proofs
set_option maxRecDepth 100000
set_option maxHeartbeats 4000000
set_option linter.unusedSimpArgs false

theorem e17 (d : Nat) (l : List Int) (cap : Option Nat) (k : Int) (hk : 0 ≤ k) (hl : k + l.length ≤ 549755813888) : evFun E (d+1) 17 [.ref 0 [] 1 0 l.length cap, vi k] [l.map (iv .u8)] = some (vi (k + l.length), [some ((marks .u8 k l.length).map (iv .u8))]) := by
  refine evFun_body b17 ?_
  simp only [vv, firstRegion, apartAll, clash, meets, execOp, evBox, opnd, builtinHM, bin, convHM, fillP, fieldsPlace, solid, inOrd, sliceHM, bound, zOK, appendHM, srcCells, borL, isSl, slLen, storeHM, loadHM, look1, idxAddr, arrAddr, cellsOf, TD.agg, loadedL, loaded, borrowed, isOwn, fieldR, partHM, absorbL, absorb1, setAt, killAV, killL, leafV, getR, isNil, nilV, Array.toList, List.map, bne_self_eq_false, reduceIte, reduceCtorEq, Nat.reduceEqDiff, Nat.reduceAdd, Nat.reduceMul, Nat.reduceSub, Nat.reduceBEq, Nat.reduceLeDiff, Int.reduceEq, Int.reduceLT, Int.reduceLE, Int.reduceGE, Int.reduceGT, Int.reduceBEq, Int.reduceBNe, Int.reduceToNat, Int.reduceNeg, Int.reduceSub, Int.reduceAdd, Int.reduceMul, rr, Try.f17]
  refine loop_go (fun i => {T := tp [(0, .ref 0 [] 1 0 l.length cap), (1, vi (k + (i : Int))), (5, vi i)], H := hp [some (markP .u8 k l i)], nx := 1}) l.length ?_ (lt_LF (by omega)) (fun i hi Kn hK => ?_) (fun Kn => ?_)
  · simp only [vv, ff, norm, Array.toList, List.map, bne_self_eq_false, reduceIte, reduceCtorEq, Nat.reduceEqDiff, Nat.reduceAdd, Nat.reduceMul, Nat.reduceSub, Nat.reduceBEq, Nat.reduceLeDiff, Int.reduceEq, Int.reduceLT, Int.reduceLE, Int.reduceGE, Int.reduceGT, Int.reduceBEq, Int.reduceBNe, Int.reduceToNat, Int.reduceNeg, Int.reduceSub, Int.reduceAdd, Int.reduceMul, finish, wkAV, resOf, resa, noSnap, noSnapL, noSnapO, keep, liveKeys, keysL, keysAV, renAV, renL, Int.natCast_zero, Int.add_zero, markP_zero]
  · simp only [vv, firstRegion, apartAll, clash, meets, execOp, evBox, opnd, builtinHM, bin, convHM, fillP, fieldsPlace, solid, inOrd, sliceHM, bound, zOK, appendHM, srcCells, borL, isSl, slLen, storeHM, loadHM, look1, idxAddr, arrAddr, cellsOf, TD.agg, loadedL, loaded, borrowed, isOwn, fieldR, partHM, absorbL, absorb1, setAt, killAV, killL, leafV, getR, isNil, nilV, Array.toList, List.map, bne_self_eq_false, reduceIte, reduceCtorEq, Nat.reduceEqDiff, Nat.reduceAdd, Nat.reduceMul, Nat.reduceSub, Nat.reduceBEq, Nat.reduceLeDiff, Int.reduceEq, Int.reduceLT, Int.reduceLE, Int.reduceGE, Int.reduceGT, Int.reduceBEq, Int.reduceBNe, Int.reduceToNat, Int.reduceNeg, Int.reduceSub, Int.reduceAdd, Int.reduceMul, rr, lt_ok hi, markP_lt _ _ _ hi, markP_set _ _ _ hi, wrap_succ hi (show l.length ≤ 2 ^ 39 by omega), wrapS hi hk hl]
    refine hK _ ?_
    simp only [vv, ff, norm, Array.toList, List.map, bne_self_eq_false, reduceIte, reduceCtorEq, Nat.reduceEqDiff, Nat.reduceAdd, Nat.reduceMul, Nat.reduceSub, Nat.reduceBEq, Nat.reduceLeDiff, Int.reduceEq, Int.reduceLT, Int.reduceLE, Int.reduceGE, Int.reduceGT, Int.reduceBEq, Int.reduceBNe, Int.reduceToNat, Int.reduceNeg, Int.reduceSub, Int.reduceAdd, Int.reduceMul, finish, wkAV, resOf, resa, noSnap, noSnapL, noSnapO, keep, liveKeys, keysL, keysAV, renAV, renL]
  · simp only [vv, firstRegion, apartAll, clash, meets, execOp, evBox, opnd, builtinHM, bin, convHM, fillP, fieldsPlace, solid, inOrd, sliceHM, bound, zOK, appendHM, srcCells, borL, isSl, slLen, storeHM, loadHM, look1, idxAddr, arrAddr, cellsOf, TD.agg, loadedL, loaded, borrowed, isOwn, fieldR, partHM, absorbL, absorb1, setAt, killAV, killL, leafV, getR, isNil, nilV, Array.toList, List.map, bne_self_eq_false, reduceIte, reduceCtorEq, Nat.reduceEqDiff, Nat.reduceAdd, Nat.reduceMul, Nat.reduceSub, Nat.reduceBEq, Nat.reduceLeDiff, Int.reduceEq, Int.reduceLT, Int.reduceLE, Int.reduceGE, Int.reduceGT, Int.reduceBEq, Int.reduceBNe, Int.reduceToNat, Int.reduceNeg, Int.reduceSub, Int.reduceAdd, Int.reduceMul, rr, lt_no]
    simp only [vv, ff, firstRegion, apartAll, clash, meets, execOp, evBox, opnd, builtinHM, bin, convHM, fillP, fieldsPlace, solid, inOrd, sliceHM, bound, zOK, appendHM, srcCells, borL, isSl, slLen, storeHM, loadHM, look1, idxAddr, arrAddr, cellsOf, TD.agg, loadedL, loaded, borrowed, isOwn, fieldR, partHM, absorbL, absorb1, setAt, killAV, killL, leafV, getR, isNil, nilV, Array.toList, List.map, bne_self_eq_false, reduceIte, reduceCtorEq, Nat.reduceEqDiff, Nat.reduceAdd, Nat.reduceMul, Nat.reduceSub, Nat.reduceBEq, Nat.reduceLeDiff, Int.reduceEq, Int.reduceLT, Int.reduceLE, Int.reduceGE, Int.reduceGT, Int.reduceBEq, Int.reduceBNe, Int.reduceToNat, Int.reduceNeg, Int.reduceSub, Int.reduceAdd, Int.reduceMul, finish, wkAV, resOf, resa, noSnap, noSnapL, noSnapO, keep, liveKeys, keysL, keysAV, renAV, renL, rr, markP_full]
theorem e18 (d : Nat) (tg : Tg) (cap : Option Nat) (n : Nat) (k : Int) (hk : 0 ≤ k) (hl : k + n ≤ 549755813888) : evFun E (d+1) 18 [.sl tg 1 n cap ((marks .u8 k n).map (iv .u8)), vi k] [] = some (vi (k + n), []) := by
  refine evFun_body b18 ?_
  simp only [vv, firstRegion, apartAll, clash, meets, execOp, evBox, opnd, builtinHM, bin, convHM, fillP, fieldsPlace, solid, inOrd, sliceHM, bound, zOK, appendHM, srcCells, borL, isSl, slLen, storeHM, loadHM, look1, idxAddr, arrAddr, cellsOf, TD.agg, loadedL, loaded, borrowed, isOwn, fieldR, partHM, absorbL, absorb1, setAt, killAV, killL, leafV, getR, isNil, nilV, Array.toList, List.map, bne_self_eq_false, reduceIte, reduceCtorEq, Nat.reduceEqDiff, Nat.reduceAdd, Nat.reduceMul, Nat.reduceSub, Nat.reduceBEq, Nat.reduceLeDiff, Int.reduceEq, Int.reduceLT, Int.reduceLE, Int.reduceGE, Int.reduceGT, Int.reduceBEq, Int.reduceBNe, Int.reduceToNat, Int.reduceNeg, Int.reduceSub, Int.reduceAdd, Int.reduceMul, rr, Try.f18]
  refine loop_go (fun i => {T := tp [(0, .sl tg 1 n cap ((marks .u8 k n).map (iv .u8))), (1, vi (k + (i : Int))), (5, vi i)], H := hp [], nx := 0}) n ?_ (lt_LF (by omega)) (fun i hi Kn hK => ?_) (fun Kn => ?_)
  · simp only [vv, ff, norm, Array.toList, List.map, bne_self_eq_false, reduceIte, reduceCtorEq, Nat.reduceEqDiff, Nat.reduceAdd, Nat.reduceMul, Nat.reduceSub, Nat.reduceBEq, Nat.reduceLeDiff, Int.reduceEq, Int.reduceLT, Int.reduceLE, Int.reduceGE, Int.reduceGT, Int.reduceBEq, Int.reduceBNe, Int.reduceToNat, Int.reduceNeg, Int.reduceSub, Int.reduceAdd, Int.reduceMul, finish, wkAV, resOf, resa, noSnap, noSnapL, noSnapO, keep, liveKeys, keysL, keysAV, renAV, renL, Int.natCast_zero, Int.add_zero]
  · simp only [vv, firstRegion, apartAll, clash, meets, execOp, evBox, opnd, builtinHM, bin, convHM, fillP, fieldsPlace, solid, inOrd, sliceHM, bound, zOK, appendHM, srcCells, borL, isSl, slLen, storeHM, loadHM, look1, idxAddr, arrAddr, cellsOf, TD.agg, loadedL, loaded, borrowed, isOwn, fieldR, partHM, absorbL, absorb1, setAt, killAV, killL, leafV, getR, isNil, nilV, Array.toList, List.map, bne_self_eq_false, reduceIte, reduceCtorEq, Nat.reduceEqDiff, Nat.reduceAdd, Nat.reduceMul, Nat.reduceSub, Nat.reduceBEq, Nat.reduceLeDiff, Int.reduceEq, Int.reduceLT, Int.reduceLE, Int.reduceGE, Int.reduceGT, Int.reduceBEq, Int.reduceBNe, Int.reduceToNat, Int.reduceNeg, Int.reduceSub, Int.reduceAdd, Int.reduceMul, rr, lt_ok hi, marks_get _ _ hi, bne_self_eq_false, wrap_succ hi (show n ≤ 2 ^ 39 by omega), wrapS hi hk hl]
    refine hK _ ?_
    simp only [vv, ff, norm, Array.toList, List.map, bne_self_eq_false, reduceIte, reduceCtorEq, Nat.reduceEqDiff, Nat.reduceAdd, Nat.reduceMul, Nat.reduceSub, Nat.reduceBEq, Nat.reduceLeDiff, Int.reduceEq, Int.reduceLT, Int.reduceLE, Int.reduceGE, Int.reduceGT, Int.reduceBEq, Int.reduceBNe, Int.reduceToNat, Int.reduceNeg, Int.reduceSub, Int.reduceAdd, Int.reduceMul, finish, wkAV, resOf, resa, noSnap, noSnapL, noSnapO, keep, liveKeys, keysL, keysAV, renAV, renL]
  · simp only [vv, firstRegion, apartAll, clash, meets, execOp, evBox, opnd, builtinHM, bin, convHM, fillP, fieldsPlace, solid, inOrd, sliceHM, bound, zOK, appendHM, srcCells, borL, isSl, slLen, storeHM, loadHM, look1, idxAddr, arrAddr, cellsOf, TD.agg, loadedL, loaded, borrowed, isOwn, fieldR, partHM, absorbL, absorb1, setAt, killAV, killL, leafV, getR, isNil, nilV, Array.toList, List.map, bne_self_eq_false, reduceIte, reduceCtorEq, Nat.reduceEqDiff, Nat.reduceAdd, Nat.reduceMul, Nat.reduceSub, Nat.reduceBEq, Nat.reduceLeDiff, Int.reduceEq, Int.reduceLT, Int.reduceLE, Int.reduceGE, Int.reduceGT, Int.reduceBEq, Int.reduceBNe, Int.reduceToNat, Int.reduceNeg, Int.reduceSub, Int.reduceAdd, Int.reduceMul, rr, lt_no]
    simp only [vv, ff, firstRegion, apartAll, clash, meets, execOp, evBox, opnd, builtinHM, bin, convHM, fillP, fieldsPlace, solid, inOrd, sliceHM, bound, zOK, appendHM, srcCells, borL, isSl, slLen, storeHM, loadHM, look1, idxAddr, arrAddr, cellsOf, TD.agg, loadedL, loaded, borrowed, isOwn, fieldR, partHM, absorbL, absorb1, setAt, killAV, killL, leafV, getR, isNil, nilV, Array.toList, List.map, bne_self_eq_false, reduceIte, reduceCtorEq, Nat.reduceEqDiff, Nat.reduceAdd, Nat.reduceMul, Nat.reduceSub, Nat.reduceBEq, Nat.reduceLeDiff, Int.reduceEq, Int.reduceLT, Int.reduceLE, Int.reduceGE, Int.reduceGT, Int.reduceBEq, Int.reduceBNe, Int.reduceToNat, Int.reduceNeg, Int.reduceSub, Int.reduceAdd, Int.reduceMul, finish, wkAV, resOf, resa, noSnap, noSnapL, noSnapO, keep, liveKeys, keysL, keysAV, renAV, renL, rr]
end Go.Proofs.Ytlmifbpihlcabaa.VH.S
end

section
namespace Go.Proofs.Ytlmifbpihlcabaa.VH.S
open Go.Proofs
set_option maxRecDepth 100000
set_option maxHeartbeats 4000000
set_option linter.unusedSimpArgs false

theorem e46e (d : Nat) (x : Int) : evFun E (d+1) 46 [vi x, vi 8] [] = some (.ref 0 [] 1 0 8 (some 8), [some ((eightL x).map (iv .u8))]) := by
  refine evFun_body b46 ?_
  simp only [vv, cc, ff, uu, norm, firstRegion, apartAll, clash, meets, execOp, evBox, opnd, builtinHM, bin, convHM, fillP, fieldsPlace, solid, inOrd, sliceHM, bound, zOK, appendHM, srcCells, borL, isSl, slLen, storeHM, loadHM, look1, idxAddr, arrAddr, cellsOf, TD.agg, loadedL, loaded, borrowed, isOwn, fieldR, partHM, absorbL, absorb1, setAt, killAV, killL, leafV, getR, isNil, nilV, Array.toList, List.map, bne_self_eq_false, reduceIte, reduceCtorEq, Nat.reduceEqDiff, Nat.reduceAdd, Nat.reduceMul, Nat.reduceSub, Nat.reduceBEq, Nat.reduceLeDiff, Int.reduceEq, Int.reduceLT, Int.reduceLE, Int.reduceGE, Int.reduceGT, Int.reduceBEq, Int.reduceBNe, Int.reduceToNat, Int.reduceNeg, Int.reduceSub, Int.reduceAdd, Int.reduceMul, callHM, callOld, isSub, isPathRef, isValA, lendHead, subHM, subCall, plainRow, packA, packL, pack1, lendP, lentOk, getLent, putBack, backK, renAV, renL, finish, wkAV, resOf, resa, noSnap, noSnapL, noSnapO, keep, liveKeys, keysL, keysAV, rr, Try.f46]
  simp only [eightL, List.map_cons, List.map_nil, shr_shr, Int.reduceAdd, Int.reduceLE]
theorem e46f (d : Nat) (x : Int) : evFun E (d+1) 46 [vi x, vi 4] [] = some (.ref 0 [] 1 0 4 (some 4), [some ((highL x).map (iv .u8))]) := by
  refine evFun_body b46 ?_
  simp only [vv, cc, ff, uu, norm, firstRegion, apartAll, clash, meets, execOp, evBox, opnd, builtinHM, bin, convHM, fillP, fieldsPlace, solid, inOrd, sliceHM, bound, zOK, appendHM, srcCells, borL, isSl, slLen, storeHM, loadHM, look1, idxAddr, arrAddr, cellsOf, TD.agg, loadedL, loaded, borrowed, isOwn, fieldR, partHM, absorbL, absorb1, setAt, killAV, killL, leafV, getR, isNil, nilV, Array.toList, List.map, bne_self_eq_false, reduceIte, reduceCtorEq, Nat.reduceEqDiff, Nat.reduceAdd, Nat.reduceMul, Nat.reduceSub, Nat.reduceBEq, Nat.reduceLeDiff, Int.reduceEq, Int.reduceLT, Int.reduceLE, Int.reduceGE, Int.reduceGT, Int.reduceBEq, Int.reduceBNe, Int.reduceToNat, Int.reduceNeg, Int.reduceSub, Int.reduceAdd, Int.reduceMul, callHM, callOld, isSub, isPathRef, isValA, lendHead, subHM, subCall, plainRow, packA, packL, pack1, lendP, lentOk, getLent, putBack, backK, renAV, renL, finish, wkAV, resOf, resa, noSnap, noSnapL, noSnapO, keep, liveKeys, keysL, keysAV, rr, Try.f46]
  simp only [highL, List.map_cons, List.map_nil, shr_shr, Int.reduceAdd, Int.reduceLE]
theorem e45 (d : Nat) (x : Int) (h : 0 ≤ x) : evFun E (d+2) 45 [vi x] [] = some (.ref 0 [] 1 0 8 (some 8), [some ((eightL x).map (iv .u8))]) := by
  refine evFun_body b45 ?_
  have h1 : decide (x < 0) = false := by simp; omega
  simp only [vv, cc, firstRegion, apartAll, clash, meets, execOp, evBox, opnd, builtinHM, bin, convHM, fillP, fieldsPlace, solid, inOrd, sliceHM, bound, zOK, appendHM, srcCells, borL, isSl, slLen, storeHM, loadHM, look1, idxAddr, arrAddr, cellsOf, TD.agg, loadedL, loaded, borrowed, isOwn, fieldR, partHM, absorbL, absorb1, setAt, killAV, killL, leafV, getR, isNil, nilV, Array.toList, List.map, bne_self_eq_false, reduceIte, reduceCtorEq, Nat.reduceEqDiff, Nat.reduceAdd, Nat.reduceMul, Nat.reduceSub, Nat.reduceBEq, Nat.reduceLeDiff, Int.reduceEq, Int.reduceLT, Int.reduceLE, Int.reduceGE, Int.reduceGT, Int.reduceBEq, Int.reduceBNe, Int.reduceToNat, Int.reduceNeg, Int.reduceSub, Int.reduceAdd, Int.reduceMul, callHM, callOld, isSub, isPathRef, isValA, lendHead, subHM, subCall, plainRow, packA, packL, pack1, lendP, lentOk, getLent, putBack, backK, renAV, renL, rr, Try.f45, h1, e46e]
  simp only [vv, ff, firstRegion, apartAll, clash, meets, execOp, evBox, opnd, builtinHM, bin, convHM, fillP, fieldsPlace, solid, inOrd, sliceHM, bound, zOK, appendHM, srcCells, borL, isSl, slLen, storeHM, loadHM, look1, idxAddr, arrAddr, cellsOf, TD.agg, loadedL, loaded, borrowed, isOwn, fieldR, partHM, absorbL, absorb1, setAt, killAV, killL, leafV, getR, isNil, nilV, Array.toList, List.map, bne_self_eq_false, reduceIte, reduceCtorEq, Nat.reduceEqDiff, Nat.reduceAdd, Nat.reduceMul, Nat.reduceSub, Nat.reduceBEq, Nat.reduceLeDiff, Int.reduceEq, Int.reduceLT, Int.reduceLE, Int.reduceGE, Int.reduceGT, Int.reduceBEq, Int.reduceBNe, Int.reduceToNat, Int.reduceNeg, Int.reduceSub, Int.reduceAdd, Int.reduceMul, finish, wkAV, resOf, resa, noSnap, noSnapL, noSnapO, keep, liveKeys, keysL, keysAV, renAV, renL, rr]
theorem e40 (d : Nat) (x : Int) (h : 0 ≤ x) : evFun E (d+1) 40 [vi x] [] = some (.ref 0 [] 1 0 8 none, [some ((eightL x).map (iv .u8))]) := by
  refine evFun_body b40 ?_
  have h1 : decide (x < 0) = false := by simp; omega
  simp only [vv, cc, ff, uu, norm, firstRegion, apartAll, clash, meets, execOp, evBox, opnd, builtinHM, bin, convHM, fillP, fieldsPlace, solid, inOrd, sliceHM, bound, zOK, appendHM, srcCells, borL, isSl, slLen, storeHM, loadHM, look1, idxAddr, arrAddr, cellsOf, TD.agg, loadedL, loaded, borrowed, isOwn, fieldR, partHM, absorbL, absorb1, setAt, killAV, killL, leafV, getR, isNil, nilV, Array.toList, List.map, bne_self_eq_false, reduceIte, reduceCtorEq, Nat.reduceEqDiff, Nat.reduceAdd, Nat.reduceMul, Nat.reduceSub, Nat.reduceBEq, Nat.reduceLeDiff, Int.reduceEq, Int.reduceLT, Int.reduceLE, Int.reduceGE, Int.reduceGT, Int.reduceBEq, Int.reduceBNe, Int.reduceToNat, Int.reduceNeg, Int.reduceSub, Int.reduceAdd, Int.reduceMul, callHM, callOld, isSub, isPathRef, isValA, lendHead, subHM, subCall, plainRow, packA, packL, pack1, lendP, lentOk, getLent, putBack, backK, renAV, renL, finish, wkAV, resOf, resa, noSnap, noSnapL, noSnapO, keep, liveKeys, keysL, keysAV, rr, Try.f40, h1]
  simp only [eightL, List.map_cons, List.map_nil, shr_zero]
theorem e58 (d : Nat) : evFun E (d+1) 58 [.val (.slice none 0 0), vi 16] [] = some (.ref 0 [] 1 0 0 none, [some (List.replicate 16 (iv .u8 0))]) := by
  refine evFun_body b58 ?_
  simp only [vv, cc, ff, uu, norm, firstRegion, apartAll, clash, meets, execOp, evBox, opnd, builtinHM, bin, convHM, fillP, fieldsPlace, solid, inOrd, sliceHM, bound, zOK, appendHM, srcCells, borL, isSl, slLen, storeHM, loadHM, look1, idxAddr, arrAddr, cellsOf, TD.agg, loadedL, loaded, borrowed, isOwn, fieldR, partHM, absorbL, absorb1, setAt, killAV, killL, leafV, getR, isNil, nilV, Array.toList, List.map, bne_self_eq_false, reduceIte, reduceCtorEq, Nat.reduceEqDiff, Nat.reduceAdd, Nat.reduceMul, Nat.reduceSub, Nat.reduceBEq, Nat.reduceLeDiff, Int.reduceEq, Int.reduceLT, Int.reduceLE, Int.reduceGE, Int.reduceGT, Int.reduceBEq, Int.reduceBNe, Int.reduceToNat, Int.reduceNeg, Int.reduceSub, Int.reduceAdd, Int.reduceMul, callHM, callOld, isSub, isPathRef, isValA, lendHead, subHM, subCall, plainRow, packA, packL, pack1, lendP, lentOk, getLent, putBack, backK, renAV, renL, finish, wkAV, resOf, resa, noSnap, noSnapL, noSnapO, keep, liveKeys, keysL, keysAV, rr, Try.f58]
theorem e44 (d : Nat) (tg1 tg2 : Tg) (c c1 c2 : Option Nat) (a0 a1 a2 a3 a4 a5 a6 a7 b0 b1 b2 b3 b4 b5 b6 b7 : Int) : evFun E (d+2) 44 [.sl .snap 1 2 c [.sl tg1 1 8 c1 [iv .u8 a0, iv .u8 a1, iv .u8 a2, iv .u8 a3, iv .u8 a4, iv .u8 a5, iv .u8 a6, iv .u8 a7], .sl tg2 1 8 c2 [iv .u8 b0, iv .u8 b1, iv .u8 b2, iv .u8 b3, iv .u8 b4, iv .u8 b5, iv .u8 b6, iv .u8 b7]]] [] = some (.ref 0 [] 1 0 16 none, [some [iv .u8 a0, iv .u8 a1, iv .u8 a2, iv .u8 a3, iv .u8 a4, iv .u8 a5, iv .u8 a6, iv .u8 a7, iv .u8 b0, iv .u8 b1, iv .u8 b2, iv .u8 b3, iv .u8 b4, iv .u8 b5, iv .u8 b6, iv .u8 b7]]) := by
  refine evFun_body b44 ?_
  simp only [vv, cc, ff, uu, norm, firstRegion, apartAll, clash, meets, execOp, evBox, opnd, builtinHM, bin, convHM, fillP, fieldsPlace, solid, inOrd, sliceHM, bound, zOK, appendHM, srcCells, borL, isSl, slLen, storeHM, loadHM, look1, idxAddr, arrAddr, cellsOf, TD.agg, loadedL, loaded, borrowed, isOwn, fieldR, partHM, absorbL, absorb1, setAt, killAV, killL, leafV, getR, isNil, nilV, Array.toList, List.map, bne_self_eq_false, reduceIte, reduceCtorEq, Nat.reduceEqDiff, Nat.reduceAdd, Nat.reduceMul, Nat.reduceSub, Nat.reduceBEq, Nat.reduceLeDiff, Int.reduceEq, Int.reduceLT, Int.reduceLE, Int.reduceGE, Int.reduceGT, Int.reduceBEq, Int.reduceBNe, Int.reduceToNat, Int.reduceNeg, Int.reduceSub, Int.reduceAdd, Int.reduceMul, callHM, callOld, isSub, isPathRef, isValA, lendHead, subHM, subCall, plainRow, packA, packL, pack1, lendP, lentOk, getLent, putBack, backK, renAV, renL, finish, wkAV, resOf, resa, noSnap, noSnapL, noSnapO, keep, liveKeys, keysL, keysAV, rr, Try.f44, e58]

theorem e42 (d : Nat) (x : Int) : evFun E (d+2) 42 [vi x] [] = some (vb (decide (x ≥ 0) && decide (x ≤ 1000000)), []) := by
  refine evFun_body b42 ?_
  simp only [vv, cc, firstRegion, apartAll, clash, meets, execOp, evBox, opnd, builtinHM, bin, convHM, fillP, fieldsPlace, solid, inOrd, sliceHM, bound, zOK, appendHM, srcCells, borL, isSl, slLen, storeHM, loadHM, look1, idxAddr, arrAddr, cellsOf, TD.agg, loadedL, loaded, borrowed, isOwn, fieldR, partHM, absorbL, absorb1, setAt, killAV, killL, leafV, getR, isNil, nilV, Array.toList, List.map, bne_self_eq_false, reduceIte, reduceCtorEq, Nat.reduceEqDiff, Nat.reduceAdd, Nat.reduceMul, Nat.reduceSub, Nat.reduceBEq, Nat.reduceLeDiff, Int.reduceEq, Int.reduceLT, Int.reduceLE, Int.reduceGE, Int.reduceGT, Int.reduceBEq, Int.reduceBNe, Int.reduceToNat, Int.reduceNeg, Int.reduceSub, Int.reduceAdd, Int.reduceMul, callHM, callOld, isSub, isPathRef, isValA, lendHead, subHM, subCall, plainRow, packA, packL, pack1, lendP, lentOk, getLent, putBack, backK, renAV, renL, rr, Try.f42, e34]
  simp only [vv, ff, firstRegion, apartAll, clash, meets, execOp, evBox, opnd, builtinHM, bin, convHM, fillP, fieldsPlace, solid, inOrd, sliceHM, bound, zOK, appendHM, srcCells, borL, isSl, slLen, storeHM, loadHM, look1, idxAddr, arrAddr, cellsOf, TD.agg, loadedL, loaded, borrowed, isOwn, fieldR, partHM, absorbL, absorb1, setAt, killAV, killL, leafV, getR, isNil, nilV, Array.toList, List.map, bne_self_eq_false, reduceIte, reduceCtorEq, Nat.reduceEqDiff, Nat.reduceAdd, Nat.reduceMul, Nat.reduceSub, Nat.reduceBEq, Nat.reduceLeDiff, Int.reduceEq, Int.reduceLT, Int.reduceLE, Int.reduceGE, Int.reduceGT, Int.reduceBEq, Int.reduceBNe, Int.reduceToNat, Int.reduceNeg, Int.reduceSub, Int.reduceAdd, Int.reduceMul, finish, wkAV, resOf, resa, noSnap, noSnapL, noSnapO, keep, liveKeys, keysL, keysAV, renAV, renL, rr]
theorem e43 (d : Nat) (x : Int) : evFun E (d+2) 43 [vi x] [] = some (vb (decide (x ≥ 0) && decide (x ≤ 1152921504606846975)), []) := by
  refine evFun_body b43 ?_
  simp only [vv, cc, firstRegion, apartAll, clash, meets, execOp, evBox, opnd, builtinHM, bin, convHM, fillP, fieldsPlace, solid, inOrd, sliceHM, bound, zOK, appendHM, srcCells, borL, isSl, slLen, storeHM, loadHM, look1, idxAddr, arrAddr, cellsOf, TD.agg, loadedL, loaded, borrowed, isOwn, fieldR, partHM, absorbL, absorb1, setAt, killAV, killL, leafV, getR, isNil, nilV, Array.toList, List.map, bne_self_eq_false, reduceIte, reduceCtorEq, Nat.reduceEqDiff, Nat.reduceAdd, Nat.reduceMul, Nat.reduceSub, Nat.reduceBEq, Nat.reduceLeDiff, Int.reduceEq, Int.reduceLT, Int.reduceLE, Int.reduceGE, Int.reduceGT, Int.reduceBEq, Int.reduceBNe, Int.reduceToNat, Int.reduceNeg, Int.reduceSub, Int.reduceAdd, Int.reduceMul, callHM, callOld, isSub, isPathRef, isValA, lendHead, subHM, subCall, plainRow, packA, packL, pack1, lendP, lentOk, getLent, putBack, backK, renAV, renL, rr, Try.f43, e34]
  simp only [vv, ff, firstRegion, apartAll, clash, meets, execOp, evBox, opnd, builtinHM, bin, convHM, fillP, fieldsPlace, solid, inOrd, sliceHM, bound, zOK, appendHM, srcCells, borL, isSl, slLen, storeHM, loadHM, look1, idxAddr, arrAddr, cellsOf, TD.agg, loadedL, loaded, borrowed, isOwn, fieldR, partHM, absorbL, absorb1, setAt, killAV, killL, leafV, getR, isNil, nilV, Array.toList, List.map, bne_self_eq_false, reduceIte, reduceCtorEq, Nat.reduceEqDiff, Nat.reduceAdd, Nat.reduceMul, Nat.reduceSub, Nat.reduceBEq, Nat.reduceLeDiff, Int.reduceEq, Int.reduceLT, Int.reduceLE, Int.reduceGE, Int.reduceGT, Int.reduceBEq, Int.reduceBNe, Int.reduceToNat, Int.reduceNeg, Int.reduceSub, Int.reduceAdd, Int.reduceMul, finish, wkAV, resOf, resa, noSnap, noSnapL, noSnapO, keep, liveKeys, keysL, keysAV, renAV, renL, rr]
theorem e47s (d : Nat) (tg : Tg) (cap : Option Nat) (a0 a1 a2 a3 a4 a5 a6 a7 b0 b1 b2 b3 b4 b5 b6 b7 : Int) : evFun E (d+6) 47 [vi 32, .sl tg 1 16 cap [iv .u8 a0, iv .u8 a1, iv .u8 a2, iv .u8 a3, iv .u8 a4, iv .u8 a5, iv .u8 a6, iv .u8 a7, iv .u8 b0, iv .u8 b1, iv .u8 b2, iv .u8 b3, iv .u8 b4, iv .u8 b5, iv .u8 b6, iv .u8 b7]] [] = some (vi (dig 32 [a0, a1, a2, a3, a4, a5, a6, a7, b0, b1, b2, b3, b4, b5, b6, b7]), []) := e47 d 32 tg cap [a0, a1, a2, a3, a4, a5, a6, a7, b0, b1, b2, b3, b4, b5, b6, b7] (by decide) (by decide) (by simp)
theorem e41s (d : Nat) (tg : Tg) (cap : Option Nat) (a0 a1 a2 a3 a4 a5 a6 a7 b0 b1 b2 b3 b4 b5 b6 b7 : Int) : evFun E (d+4) 41 [vi 32, .sl tg 1 16 cap [iv .u8 a0, iv .u8 a1, iv .u8 a2, iv .u8 a3, iv .u8 a4, iv .u8 a5, iv .u8 a6, iv .u8 a7, iv .u8 b0, iv .u8 b1, iv .u8 b2, iv .u8 b3, iv .u8 b4, iv .u8 b5, iv .u8 b6, iv .u8 b7]] [] = some (vi (dig 32 [a0, a1, a2, a3, a4, a5, a6, a7, b0, b1, b2, b3, b4, b5, b6, b7]), []) := e41 d 32 tg cap [a0, a1, a2, a3, a4, a5, a6, a7, b0, b1, b2, b3, b4, b5, b6, b7] (by decide) (by decide) (by simp)
def okS (c r : Int) : Bool := (decide (c ≥ 0) && decide (c ≤ 1000000)) && (decide (r ≥ 0) && decide (r ≤ 1152921504606846975))
end Go.Proofs.Ytlmifbpihlcabaa.VH.S
end

section
namespace Go.Proofs.Ytlmifbpihlcabaa.VH.S
open Go.Proofs
set_option maxRecDepth 100000
set_option maxHeartbeats 4000000
set_option linter.unusedSimpArgs false

theorem e15 (d : Nat) (c r : Int) (h : okS c r = true) : evFun E (d+7) 15 [vi c, vi r] [] = some (.tup [.ref 0 [] 1 0 20 none, vb true], [some ((slotL c r).map (iv .u8))]) := by
  refine evFun_body b15 ?_
  simp only [okS, Bool.and_eq_true, decide_eq_true_eq] at h
  have q1 : decide (c ≥ 0) = true := by simp; omega
  have q2 : decide (c ≤ 1000000) = true := by simp; omega
  have q3 : decide (r ≥ 0) = true := by simp; omega
  have q4 : decide (r ≤ 1152921504606846975) = true := by simp; omega
  simp only [slotL]
  generalize hD : dig 32 (eightL c ++ eightL r) = D
  simp only [eightL, List.cons_append, List.nil_append] at hD
  simp only [vv, cc, firstRegion, apartAll, clash, meets, execOp, evBox, opnd, builtinHM, bin, convHM, fillP, fieldsPlace, solid, inOrd, sliceHM, bound, zOK, appendHM, srcCells, borL, isSl, slLen, storeHM, loadHM, look1, idxAddr, arrAddr, cellsOf, TD.agg, loadedL, loaded, borrowed, isOwn, fieldR, partHM, absorbL, absorb1, setAt, killAV, killL, leafV, getR, isNil, nilV, Array.toList, List.map, bne_self_eq_false, reduceIte, reduceCtorEq, Nat.reduceEqDiff, Nat.reduceAdd, Nat.reduceMul, Nat.reduceSub, Nat.reduceBEq, Nat.reduceLeDiff, Int.reduceEq, Int.reduceLT, Int.reduceLE, Int.reduceGE, Int.reduceGT, Int.reduceBEq, Int.reduceBNe, Int.reduceToNat, Int.reduceNeg, Int.reduceSub, Int.reduceAdd, Int.reduceMul, callHM, callOld, isSub, isPathRef, isValA, lendHead, subHM, subCall, plainRow, packA, packL, pack1, lendP, lentOk, getLent, putBack, backK, renAV, renL, rr, Try.f15, e42, e43, q1, q2, q3, q4, e45 _ c (by omega), e45 _ r (by omega), eightL, highL, e44, e47s, hD, e46f]
  simp only [vv, ff, firstRegion, apartAll, clash, meets, execOp, evBox, opnd, builtinHM, bin, convHM, fillP, fieldsPlace, solid, inOrd, sliceHM, bound, zOK, appendHM, srcCells, borL, isSl, slLen, storeHM, loadHM, look1, idxAddr, arrAddr, cellsOf, TD.agg, loadedL, loaded, borrowed, isOwn, fieldR, partHM, absorbL, absorb1, setAt, killAV, killL, leafV, getR, isNil, nilV, Array.toList, List.map, bne_self_eq_false, reduceIte, reduceCtorEq, Nat.reduceEqDiff, Nat.reduceAdd, Nat.reduceMul, Nat.reduceSub, Nat.reduceBEq, Nat.reduceLeDiff, Int.reduceEq, Int.reduceLT, Int.reduceLE, Int.reduceGE, Int.reduceGT, Int.reduceBEq, Int.reduceBNe, Int.reduceToNat, Int.reduceNeg, Int.reduceSub, Int.reduceAdd, Int.reduceMul, finish, wkAV, resOf, resa, noSnap, noSnapL, noSnapO, keep, liveKeys, keysL, keysAV, renAV, renL, rr, eightL, highL]
theorem e15n (d : Nat) (c r : Int) (h : okS c r = false) : evFun E (d+7) 15 [vi c, vi r] [] = some (.tup [.val nilV, vb false], []) := by
  refine evFun_body b15 ?_
  simp only [okS] at h
  cases hb : (decide (c ≥ 0) && decide (c ≤ 1000000)) with
  | false =>
    simp only [vv, cc, firstRegion, apartAll, clash, meets, execOp, evBox, opnd, builtinHM, bin, convHM, fillP, fieldsPlace, solid, inOrd, sliceHM, bound, zOK, appendHM, srcCells, borL, isSl, slLen, storeHM, loadHM, look1, idxAddr, arrAddr, cellsOf, TD.agg, loadedL, loaded, borrowed, isOwn, fieldR, partHM, absorbL, absorb1, setAt, killAV, killL, leafV, getR, isNil, nilV, Array.toList, List.map, bne_self_eq_false, reduceIte, reduceCtorEq, Nat.reduceEqDiff, Nat.reduceAdd, Nat.reduceMul, Nat.reduceSub, Nat.reduceBEq, Nat.reduceLeDiff, Int.reduceEq, Int.reduceLT, Int.reduceLE, Int.reduceGE, Int.reduceGT, Int.reduceBEq, Int.reduceBNe, Int.reduceToNat, Int.reduceNeg, Int.reduceSub, Int.reduceAdd, Int.reduceMul, callHM, callOld, isSub, isPathRef, isValA, lendHead, subHM, subCall, plainRow, packA, packL, pack1, lendP, lentOk, getLent, putBack, backK, renAV, renL, rr, Try.f15, e42, e43, hb]
    simp only [vv, ff, firstRegion, apartAll, clash, meets, execOp, evBox, opnd, builtinHM, bin, convHM, fillP, fieldsPlace, solid, inOrd, sliceHM, bound, zOK, appendHM, srcCells, borL, isSl, slLen, storeHM, loadHM, look1, idxAddr, arrAddr, cellsOf, TD.agg, loadedL, loaded, borrowed, isOwn, fieldR, partHM, absorbL, absorb1, setAt, killAV, killL, leafV, getR, isNil, nilV, Array.toList, List.map, bne_self_eq_false, reduceIte, reduceCtorEq, Nat.reduceEqDiff, Nat.reduceAdd, Nat.reduceMul, Nat.reduceSub, Nat.reduceBEq, Nat.reduceLeDiff, Int.reduceEq, Int.reduceLT, Int.reduceLE, Int.reduceGE, Int.reduceGT, Int.reduceBEq, Int.reduceBNe, Int.reduceToNat, Int.reduceNeg, Int.reduceSub, Int.reduceAdd, Int.reduceMul, finish, wkAV, resOf, resa, noSnap, noSnapL, noSnapO, keep, liveKeys, keysL, keysAV, renAV, renL, rr, nilV]
  | true =>
    rw [hb, Bool.true_and] at h
    simp only [vv, cc, firstRegion, apartAll, clash, meets, execOp, evBox, opnd, builtinHM, bin, convHM, fillP, fieldsPlace, solid, inOrd, sliceHM, bound, zOK, appendHM, srcCells, borL, isSl, slLen, storeHM, loadHM, look1, idxAddr, arrAddr, cellsOf, TD.agg, loadedL, loaded, borrowed, isOwn, fieldR, partHM, absorbL, absorb1, setAt, killAV, killL, leafV, getR, isNil, nilV, Array.toList, List.map, bne_self_eq_false, reduceIte, reduceCtorEq, Nat.reduceEqDiff, Nat.reduceAdd, Nat.reduceMul, Nat.reduceSub, Nat.reduceBEq, Nat.reduceLeDiff, Int.reduceEq, Int.reduceLT, Int.reduceLE, Int.reduceGE, Int.reduceGT, Int.reduceBEq, Int.reduceBNe, Int.reduceToNat, Int.reduceNeg, Int.reduceSub, Int.reduceAdd, Int.reduceMul, callHM, callOld, isSub, isPathRef, isValA, lendHead, subHM, subCall, plainRow, packA, packL, pack1, lendP, lentOk, getLent, putBack, backK, renAV, renL, rr, Try.f15, e42, e43, hb, h]
    simp only [vv, ff, firstRegion, apartAll, clash, meets, execOp, evBox, opnd, builtinHM, bin, convHM, fillP, fieldsPlace, solid, inOrd, sliceHM, bound, zOK, appendHM, srcCells, borL, isSl, slLen, storeHM, loadHM, look1, idxAddr, arrAddr, cellsOf, TD.agg, loadedL, loaded, borrowed, isOwn, fieldR, partHM, absorbL, absorb1, setAt, killAV, killL, leafV, getR, isNil, nilV, Array.toList, List.map, bne_self_eq_false, reduceIte, reduceCtorEq, Nat.reduceEqDiff, Nat.reduceAdd, Nat.reduceMul, Nat.reduceSub, Nat.reduceBEq, Nat.reduceLeDiff, Int.reduceEq, Int.reduceLT, Int.reduceLE, Int.reduceGE, Int.reduceGT, Int.reduceBEq, Int.reduceBNe, Int.reduceToNat, Int.reduceNeg, Int.reduceSub, Int.reduceAdd, Int.reduceMul, finish, wkAV, resOf, resa, noSnap, noSnapL, noSnapO, keep, liveKeys, keysL, keysAV, renAV, renL, rr, nilV]
theorem e14 (d : Nat) (c r : Int) (h : okS c r = true) : evFun E (d+5) 14 [vi c, vi r] [] = some (.tup [.ref 0 [] 1 0 20 none, vb true], [some ((slotL c r).map (iv .u8))]) := by
  refine evFun_body b14 ?_
  simp only [okS, Bool.and_eq_true, decide_eq_true_eq] at h
  have q1 : decide (c ≥ 0) = true := by simp; omega
  have q2 : decide (c ≤ 1000000) = true := by simp; omega
  have q3 : decide (r ≥ 0) = true := by simp; omega
  have q4 : decide (r ≤ 1152921504606846975) = true := by simp; omega
  simp only [slotL]
  generalize hD : dig 32 (eightL c ++ eightL r) = D
  have hD0 : 0 ≤ D := by rw [← hD]; exact dig_nn _
  simp only [eightL, List.cons_append, List.nil_append] at hD
  simp only [vv, cc, firstRegion, apartAll, clash, meets, execOp, evBox, opnd, builtinHM, bin, convHM, fillP, fieldsPlace, solid, inOrd, sliceHM, bound, zOK, appendHM, srcCells, borL, isSl, slLen, storeHM, loadHM, look1, idxAddr, arrAddr, cellsOf, TD.agg, loadedL, loaded, borrowed, isOwn, fieldR, partHM, absorbL, absorb1, setAt, killAV, killL, leafV, getR, isNil, nilV, Array.toList, List.map, bne_self_eq_false, reduceIte, reduceCtorEq, Nat.reduceEqDiff, Nat.reduceAdd, Nat.reduceMul, Nat.reduceSub, Nat.reduceBEq, Nat.reduceLeDiff, Int.reduceEq, Int.reduceLT, Int.reduceLE, Int.reduceGE, Int.reduceGT, Int.reduceBEq, Int.reduceBNe, Int.reduceToNat, Int.reduceNeg, Int.reduceSub, Int.reduceAdd, Int.reduceMul, callHM, callOld, isSub, isPathRef, isValA, lendHead, subHM, subCall, plainRow, packA, packL, pack1, lendP, lentOk, getLent, putBack, backK, renAV, renL, rr, Try.f14, e32, q1, q2, q3, q4, e40 _ c (by omega), e40 _ r (by omega), e41s, eightL, hD, e40 _ D hD0]
  simp only [vv, ff, firstRegion, apartAll, clash, meets, execOp, evBox, opnd, builtinHM, bin, convHM, fillP, fieldsPlace, solid, inOrd, sliceHM, bound, zOK, appendHM, srcCells, borL, isSl, slLen, storeHM, loadHM, look1, idxAddr, arrAddr, cellsOf, TD.agg, loadedL, loaded, borrowed, isOwn, fieldR, partHM, absorbL, absorb1, setAt, killAV, killL, leafV, getR, isNil, nilV, Array.toList, List.map, bne_self_eq_false, reduceIte, reduceCtorEq, Nat.reduceEqDiff, Nat.reduceAdd, Nat.reduceMul, Nat.reduceSub, Nat.reduceBEq, Nat.reduceLeDiff, Int.reduceEq, Int.reduceLT, Int.reduceLE, Int.reduceGE, Int.reduceGT, Int.reduceBEq, Int.reduceBNe, Int.reduceToNat, Int.reduceNeg, Int.reduceSub, Int.reduceAdd, Int.reduceMul, finish, wkAV, resOf, resa, noSnap, noSnapL, noSnapO, keep, liveKeys, keysL, keysAV, renAV, renL, rr, eightL, highL]
theorem e14n (d : Nat) (c r : Int) (h : okS c r = false) : evFun E (d+5) 14 [vi c, vi r] [] = some (.tup [.ref 0 [] 1 0 0 (some 0), vb false], [some []]) := by
  refine evFun_body b14 ?_
  simp only [okS] at h
  cases hb : (decide (c ≥ 0) && decide (c ≤ 1000000)) with
  | false =>
    simp only [vv, cc, firstRegion, apartAll, clash, meets, execOp, evBox, opnd, builtinHM, bin, convHM, fillP, fieldsPlace, solid, inOrd, sliceHM, bound, zOK, appendHM, srcCells, borL, isSl, slLen, storeHM, loadHM, look1, idxAddr, arrAddr, cellsOf, TD.agg, loadedL, loaded, borrowed, isOwn, fieldR, partHM, absorbL, absorb1, setAt, killAV, killL, leafV, getR, isNil, nilV, Array.toList, List.map, bne_self_eq_false, reduceIte, reduceCtorEq, Nat.reduceEqDiff, Nat.reduceAdd, Nat.reduceMul, Nat.reduceSub, Nat.reduceBEq, Nat.reduceLeDiff, Int.reduceEq, Int.reduceLT, Int.reduceLE, Int.reduceGE, Int.reduceGT, Int.reduceBEq, Int.reduceBNe, Int.reduceToNat, Int.reduceNeg, Int.reduceSub, Int.reduceAdd, Int.reduceMul, callHM, callOld, isSub, isPathRef, isValA, lendHead, subHM, subCall, plainRow, packA, packL, pack1, lendP, lentOk, getLent, putBack, backK, renAV, renL, rr, Try.f14, e32, hb]
    simp only [vv, ff, firstRegion, apartAll, clash, meets, execOp, evBox, opnd, builtinHM, bin, convHM, fillP, fieldsPlace, solid, inOrd, sliceHM, bound, zOK, appendHM, srcCells, borL, isSl, slLen, storeHM, loadHM, look1, idxAddr, arrAddr, cellsOf, TD.agg, loadedL, loaded, borrowed, isOwn, fieldR, partHM, absorbL, absorb1, setAt, killAV, killL, leafV, getR, isNil, nilV, Array.toList, List.map, bne_self_eq_false, reduceIte, reduceCtorEq, Nat.reduceEqDiff, Nat.reduceAdd, Nat.reduceMul, Nat.reduceSub, Nat.reduceBEq, Nat.reduceLeDiff, Int.reduceEq, Int.reduceLT, Int.reduceLE, Int.reduceGE, Int.reduceGT, Int.reduceBEq, Int.reduceBNe, Int.reduceToNat, Int.reduceNeg, Int.reduceSub, Int.reduceAdd, Int.reduceMul, finish, wkAV, resOf, resa, noSnap, noSnapL, noSnapO, keep, liveKeys, keysL, keysAV, renAV, renL, rr]
  | true =>
    rw [hb, Bool.true_and] at h
    simp only [vv, cc, firstRegion, apartAll, clash, meets, execOp, evBox, opnd, builtinHM, bin, convHM, fillP, fieldsPlace, solid, inOrd, sliceHM, bound, zOK, appendHM, srcCells, borL, isSl, slLen, storeHM, loadHM, look1, idxAddr, arrAddr, cellsOf, TD.agg, loadedL, loaded, borrowed, isOwn, fieldR, partHM, absorbL, absorb1, setAt, killAV, killL, leafV, getR, isNil, nilV, Array.toList, List.map, bne_self_eq_false, reduceIte, reduceCtorEq, Nat.reduceEqDiff, Nat.reduceAdd, Nat.reduceMul, Nat.reduceSub, Nat.reduceBEq, Nat.reduceLeDiff, Int.reduceEq, Int.reduceLT, Int.reduceLE, Int.reduceGE, Int.reduceGT, Int.reduceBEq, Int.reduceBNe, Int.reduceToNat, Int.reduceNeg, Int.reduceSub, Int.reduceAdd, Int.reduceMul, callHM, callOld, isSub, isPathRef, isValA, lendHead, subHM, subCall, plainRow, packA, packL, pack1, lendP, lentOk, getLent, putBack, backK, renAV, renL, rr, Try.f14, e32, hb, h]
    simp only [vv, ff, firstRegion, apartAll, clash, meets, execOp, evBox, opnd, builtinHM, bin, convHM, fillP, fieldsPlace, solid, inOrd, sliceHM, bound, zOK, appendHM, srcCells, borL, isSl, slLen, storeHM, loadHM, look1, idxAddr, arrAddr, cellsOf, TD.agg, loadedL, loaded, borrowed, isOwn, fieldR, partHM, absorbL, absorb1, setAt, killAV, killL, leafV, getR, isNil, nilV, Array.toList, List.map, bne_self_eq_false, reduceIte, reduceCtorEq, Nat.reduceEqDiff, Nat.reduceAdd, Nat.reduceMul, Nat.reduceSub, Nat.reduceBEq, Nat.reduceLeDiff, Int.reduceEq, Int.reduceLT, Int.reduceLE, Int.reduceGE, Int.reduceGT, Int.reduceBEq, Int.reduceBNe, Int.reduceToNat, Int.reduceNeg, Int.reduceSub, Int.reduceAdd, Int.reduceMul, finish, wkAV, resOf, resa, noSnap, noSnapL, noSnapO, keep, liveKeys, keysL, keysAV, renAV, renL, rr]
end Go.Proofs.Ytlmifbpihlcabaa.VH.S
end

