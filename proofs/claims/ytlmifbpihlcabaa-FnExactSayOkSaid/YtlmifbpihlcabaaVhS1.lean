/- Part of a proof about the given program: the verified evaluator and what it tells of the functions (VhS1). Conditions: none beyond the hypotheses that each theorem states. -/
import Derived.Test.YtlmifbpihlcabaaVhEnv
import Derived.Test.YtlmifbpihlcabaaProg
namespace Go.Proofs.Ytlmifbpihlcabaa.VH.S
open Go.Proofs
set_option maxRecDepth 100000

def rows : List (TypeId × Row) := [(1, ⟨.other, 1, 8, [.nilFunc], false⟩),
  (2, ⟨.int .i64, 1, 8, [.int .i64 0], false⟩),
  (3, ⟨.int .i64, 1, 8, [.int .i64 0], false⟩),
  (4, ⟨.bool, 1, 1, [.bool false], false⟩),
  (5, ⟨.int .u8, 1, 1, [.int .u8 0], false⟩),
  (6, ⟨.int .u8, 1, 1, [.int .u8 0], false⟩),
  (7, ⟨.struct [(0, 2), (1, 3), (2, 4), (3, 6)], 4, 24, [.int .i64 0, .int .i64 0, .bool false, .int .u8 0], false⟩),
  (8, ⟨.struct [(0, 2), (1, 3), (2, 4), (3, 6)], 4, 24, [.int .i64 0, .int .i64 0, .bool false, .int .u8 0], false⟩),
  (9, ⟨.string, 1, 16, [.string ByteArray.empty], false⟩),
  (10, ⟨.string, 1, 16, [.string ByteArray.empty], false⟩),
  (11, ⟨.string, 1, 16, [.string ByteArray.empty], false⟩),
  (12, ⟨.int .u64, 1, 8, [.int .u64 0], false⟩),
  (13, ⟨.struct [(0, 9), (1, 12)], 2, 24, [.string ByteArray.empty, .int .u64 0], false⟩),
  (14, ⟨.struct [(0, 9), (1, 12)], 2, 24, [.string ByteArray.empty, .int .u64 0], false⟩),
  (15, ⟨.pointer 81, 1, 8, [.pointer none], false⟩),
  (16, ⟨.pointer 84, 1, 8, [.pointer none], false⟩),
  (17, ⟨.pointer 94, 1, 8, [.pointer none], false⟩),
  (18, ⟨.struct [(0, 17)], 1, 8, [.pointer none], false⟩),
  (19, ⟨.struct [(0, 17)], 1, 8, [.pointer none], false⟩),
  (21, ⟨.int .i32, 1, 4, [.int .i32 0], false⟩),
  (22, ⟨.slice 5, 1, 24, [.slice none 0 0], false⟩),
  (23, ⟨.slice 3, 1, 24, [.slice none 0 0], false⟩),
  (24, ⟨.struct [(0, 3), (1, 3), (2, 22), (3, 3), (4, 3), (5, 23)], 6, 80, [.int .i64 0, .int .i64 0, .slice none 0 0, .int .i64 0, .int .i64 0, .slice none 0 0], false⟩),
  (25, ⟨.struct [(0, 3), (1, 3), (2, 22), (3, 3), (4, 3), (5, 23)], 6, 80, [.int .i64 0, .int .i64 0, .slice none 0 0, .int .i64 0, .int .i64 0, .slice none 0 0], false⟩),
  (26, ⟨.other, 1, 8, [.nilFunc], false⟩),
  (27, ⟨.other, 1, 8, [.nilFunc], false⟩),
  (28, ⟨.struct [(0, 3), (1, 3), (2, 22), (3, 3), (4, 3), (5, 23)], 6, 80, [.int .i64 0, .int .i64 0, .slice none 0 0, .int .i64 0, .int .i64 0, .slice none 0 0], false⟩),
  (29, ⟨.other, 1, 8, [.nilFunc], false⟩),
  (30, ⟨.other, 1, 8, [.nilFunc], false⟩),
  (31, ⟨.other, 1, 8, [.nilFunc], false⟩),
  (33, ⟨.other, 1, 8, [.nilFunc], false⟩),
  (34, ⟨.other, 1, 8, [.nilFunc], false⟩),
  (35, ⟨.other, 1, 8, [.nilFunc], false⟩),
  (36, ⟨.other, 1, 8, [.nilFunc], false⟩),
  (37, ⟨.other, 1, 8, [.nilFunc], false⟩),
  (38, ⟨.other, 1, 8, [.nilFunc], false⟩),
  (40, ⟨.other, 1, 8, [.nilFunc], false⟩),
  (41, ⟨.other, 1, 8, [.nilFunc], false⟩),
  (42, ⟨.other, 1, 8, [.nilFunc], false⟩),
  (43, ⟨.other, 1, 8, [.nilFunc], false⟩),
  (45, ⟨.other, 1, 8, [.nilFunc], false⟩),
  (46, ⟨.other, 1, 8, [.nilFunc], false⟩),
  (47, ⟨.other, 1, 8, [.nilFunc], false⟩),
  (48, ⟨.other, 1, 8, [.nilFunc], false⟩),
  (49, ⟨.other, 1, 8, [.nilFunc], false⟩),
  (50, ⟨.other, 1, 8, [.nilFunc], false⟩),
  (51, ⟨.other, 1, 8, [.nilFunc], false⟩),
  (52, ⟨.other, 1, 8, [.nilFunc], false⟩),
  (53, ⟨.other, 1, 8, [.nilFunc], false⟩),
  (54, ⟨.other, 1, 8, [.nilFunc], false⟩),
  (55, ⟨.other, 1, 8, [.nilFunc], false⟩),
  (57, ⟨.other, 1, 8, [.nilFunc], false⟩),
  (59, ⟨.other, 1, 8, [.nilFunc], false⟩),
  (60, ⟨.other, 1, 8, [.nilFunc], false⟩),
  (61, ⟨.int .u64, 1, 8, [.int .u64 0], false⟩),
  (62, ⟨.struct [(0, 61), (1, 61), (2, 61)], 3, 24, [.int .u64 0, .int .u64 0, .int .u64 0], false⟩),
  (63, ⟨.struct [(0, 61), (1, 61), (2, 61)], 3, 24, [.int .u64 0, .int .u64 0, .int .u64 0], false⟩),
  (64, ⟨.other, 1, 8, [.nilFunc], false⟩),
  (65, ⟨.other, 1, 8, [.nilFunc], false⟩),
  (66, ⟨.slice 22, 1, 24, [.slice none 0 0], false⟩),
  (67, ⟨.other, 1, 8, [.nilFunc], false⟩),
  (68, ⟨.int .u64, 1, 8, [.int .u64 0], false⟩),
  (70, ⟨.other, 1, 8, [.nilFunc], false⟩),
  (71, ⟨.other, 1, 8, [.nilFunc], false⟩),
  (72, ⟨.other, 1, 8, [.nilFunc], false⟩),
  (73, ⟨.array 3 61, 3, 24, [.int .u64 0, .int .u64 0, .int .u64 0], false⟩),
  (74, ⟨.array 3 61, 3, 24, [.int .u64 0, .int .u64 0, .int .u64 0], false⟩),
  (75, ⟨.other, 1, 8, [.nilFunc], false⟩),
  (76, ⟨.other, 1, 8, [.nilFunc], false⟩),
  (77, ⟨.other, 1, 8, [.nilFunc], false⟩),
  (78, ⟨.pointer 74, 1, 8, [.pointer none], false⟩),
  (79, ⟨.other, 1, 8, [.nilFunc], false⟩),
  (80, ⟨.struct [(0, 17), (1, 17), (2, 17), (3, 9)], 4, 40, [.pointer none, .pointer none, .pointer none, .string ByteArray.empty], false⟩),
  (81, ⟨.struct [(0, 17), (1, 17), (2, 17), (3, 9)], 4, 40, [.pointer none, .pointer none, .pointer none, .string ByteArray.empty], false⟩),
  (85, ⟨.other, 1, 8, [.nilFunc], false⟩),
  (86, ⟨.int .u32, 1, 4, [.int .u32 0], false⟩),
  (87, ⟨.int .u8, 1, 1, [.int .u8 0], false⟩),
  (88, ⟨.int .u8, 1, 1, [.int .u8 0], false⟩),
  (89, ⟨.other, 1, 8, [.nilFunc], false⟩),
  (90, ⟨.pointer 5, 1, 8, [.pointer none], false⟩),
  (91, ⟨.int .i32, 1, 4, [.int .i32 0], false⟩),
  (92, ⟨.int .i32, 1, 4, [.int .i32 0], false⟩),
  (93, ⟨.struct [(0, 12), (1, 12), (2, 86), (3, 87), (4, 5), (5, 5), (6, 88), (7, 89), (8, 90), (9, 91), (10, 92)], 11, 48, [.int .u64 0, .int .u64 0, .int .u32 0, .int .u8 0, .int .u8 0, .int .u8 0, .int .u8 0, .nilFunc, .pointer none, .int .i32 0, .int .i32 0], false⟩),
  (94, ⟨.struct [(0, 12), (1, 12), (2, 86), (3, 87), (4, 5), (5, 5), (6, 88), (7, 89), (8, 90), (9, 91), (10, 92)], 11, 48, [.int .u64 0, .int .u64 0, .int .u32 0, .int .u8 0, .int .u8 0, .int .u8 0, .int .u8 0, .nilFunc, .pointer none, .int .i32 0, .int .i32 0], false⟩)]
noncomputable def funs : List (FuncId × Func) := [(2, Try.f2), (3, Try.f3), (4, Try.f4), (5, Try.f5), (6, Try.f6), (7, Try.f7), (8, Try.f8), (9, Try.f9), (10, Try.f10), (11, Try.f11), (12, Try.f12), (13, Try.f13), (14, Try.f14), (15, Try.f15), (16, Try.f16), (17, Try.f17), (18, Try.f18), (19, Try.f19), (20, Try.f20), (21, Try.f21), (22, Try.f22), (23, Try.f23), (24, Try.f24), (25, Try.f25), (26, Try.f26), (27, Try.f27), (28, Try.f28), (29, Try.f29), (30, Try.f30), (31, Try.f31), (32, Try.f32), (33, Try.f33), (34, Try.f34), (35, Try.f35), (36, Try.f36), (37, Try.f37), (38, Try.f38), (39, Try.f39), (40, Try.f40), (41, Try.f41), (42, Try.f42), (43, Try.f43), (44, Try.f44), (45, Try.f45), (46, Try.f46), (47, Try.f47), (48, Try.f48), (49, Try.f49), (50, Try.f50), (51, Try.f51), (52, Try.f52), (53, Try.f53), (54, Try.f54), (55, Try.f55), (56, Try.f56), (57, Try.f57), (58, Try.f58), (59, Try.f59), (60, Try.f60), (61, Try.f61), (62, Try.f62), (63, Try.f63), (64, Try.f64), (65, Try.f65), (66, Try.f66), (67, Try.f67), (68, Try.f68), (69, Try.f69), (70, Try.f70)]
def lookN {α : Type} (d : α) : List (Nat × α) → Nat → α
  | [], _ => d
  | (a, x) :: r, n => if n = a then x else lookN d r n
def lends : List (Nat × List Bool) := [(17, [true, false]), (24, [true, false]), (51, [true, false]), (66, [true, false]), (67, [true, false]), (68, [true, false])]
def lives : List (Nat × List (Nat × List Nat)) := [(10, [(4, [1, 3])]),
  (16, [(4, [0, 1, 5])]),
  (17, [(2, [0, 1, 5])]),
  (18, [(2, [0, 1, 5])]),
  (21, [(20, [0, 2, 4, 5, 8, 9])]),
  (22, [(3, [0, 3, 4])]),
  (27, [(5, [0, 5, 6, 7, 15])]),
  (33, [(3, [0, 3, 4])]),
  (39, [(4, [0, 1, 5])]),
  (40, [(5, [0, 3, 4])]),
  (41, [(5, [0, 1, 5, 6])]),
  (44, [(3, [0, 3, 9, 10, 11]), (11, [6, 25, 26, 27])]),
  (46, [(3, [0, 5, 6])]),
  (48, [(3, [0, 4, 5])]),
  (50, [(4, [0, 2, 4, 5, 6, 7, 25, 26])]),
  (51, [(2, [0, 1, 5])]),
  (52, [(2, [0, 1, 5])]),
  (55, [(2, [0, 1, 7, 8])]),
  (57, [(2, [0, 2, 4, 7])]),
  (59, [(6, [0, 8, 9, 27, 28])]),
  (60, [(3, [3, 6, 7, 8])]),
  (66, [(1, [0, 1, 6, 7, 8])]),
  (68, [(1, [0, 4, 5])])]
noncomputable def E : Env where
  hand := fun _ _ _ => none
  row := rowsOf rows
  lend := lookN [] lends
  live := fun f r => lookN [] (lookN [] lives f) r
  body := bodiesOf funs

theorem r1 : E.row 1 = some ⟨.other, 1, 8, [.nilFunc], false⟩ := rfl
theorem r2 : E.row 2 = some ⟨.int .i64, 1, 8, [.int .i64 0], false⟩ := rfl
theorem r3 : E.row 3 = some ⟨.int .i64, 1, 8, [.int .i64 0], false⟩ := rfl
theorem r4 : E.row 4 = some ⟨.bool, 1, 1, [.bool false], false⟩ := rfl
theorem r5 : E.row 5 = some ⟨.int .u8, 1, 1, [.int .u8 0], false⟩ := rfl
theorem r6 : E.row 6 = some ⟨.int .u8, 1, 1, [.int .u8 0], false⟩ := rfl
theorem r7 : E.row 7 = some ⟨.struct [(0, 2), (1, 3), (2, 4), (3, 6)], 4, 24, [.int .i64 0, .int .i64 0, .bool false, .int .u8 0], false⟩ := rfl
theorem r8 : E.row 8 = some ⟨.struct [(0, 2), (1, 3), (2, 4), (3, 6)], 4, 24, [.int .i64 0, .int .i64 0, .bool false, .int .u8 0], false⟩ := rfl
theorem r9 : E.row 9 = some ⟨.string, 1, 16, [.string ByteArray.empty], false⟩ := rfl
theorem r10 : E.row 10 = some ⟨.string, 1, 16, [.string ByteArray.empty], false⟩ := rfl
theorem r11 : E.row 11 = some ⟨.string, 1, 16, [.string ByteArray.empty], false⟩ := rfl
theorem r12 : E.row 12 = some ⟨.int .u64, 1, 8, [.int .u64 0], false⟩ := rfl
theorem r13 : E.row 13 = some ⟨.struct [(0, 9), (1, 12)], 2, 24, [.string ByteArray.empty, .int .u64 0], false⟩ := rfl
theorem r14 : E.row 14 = some ⟨.struct [(0, 9), (1, 12)], 2, 24, [.string ByteArray.empty, .int .u64 0], false⟩ := rfl
theorem r15 : E.row 15 = some ⟨.pointer 81, 1, 8, [.pointer none], false⟩ := rfl
theorem r16 : E.row 16 = some ⟨.pointer 84, 1, 8, [.pointer none], false⟩ := rfl
theorem r17 : E.row 17 = some ⟨.pointer 94, 1, 8, [.pointer none], false⟩ := rfl
theorem r18 : E.row 18 = some ⟨.struct [(0, 17)], 1, 8, [.pointer none], false⟩ := rfl
theorem r19 : E.row 19 = some ⟨.struct [(0, 17)], 1, 8, [.pointer none], false⟩ := rfl
theorem r21 : E.row 21 = some ⟨.int .i32, 1, 4, [.int .i32 0], false⟩ := rfl
theorem r22 : E.row 22 = some ⟨.slice 5, 1, 24, [.slice none 0 0], false⟩ := rfl
theorem r23 : E.row 23 = some ⟨.slice 3, 1, 24, [.slice none 0 0], false⟩ := rfl
theorem r24 : E.row 24 = some ⟨.struct [(0, 3), (1, 3), (2, 22), (3, 3), (4, 3), (5, 23)], 6, 80, [.int .i64 0, .int .i64 0, .slice none 0 0, .int .i64 0, .int .i64 0, .slice none 0 0], false⟩ := rfl
theorem r25 : E.row 25 = some ⟨.struct [(0, 3), (1, 3), (2, 22), (3, 3), (4, 3), (5, 23)], 6, 80, [.int .i64 0, .int .i64 0, .slice none 0 0, .int .i64 0, .int .i64 0, .slice none 0 0], false⟩ := rfl
theorem r26 : E.row 26 = some ⟨.other, 1, 8, [.nilFunc], false⟩ := rfl
theorem r27 : E.row 27 = some ⟨.other, 1, 8, [.nilFunc], false⟩ := rfl
theorem r28 : E.row 28 = some ⟨.struct [(0, 3), (1, 3), (2, 22), (3, 3), (4, 3), (5, 23)], 6, 80, [.int .i64 0, .int .i64 0, .slice none 0 0, .int .i64 0, .int .i64 0, .slice none 0 0], false⟩ := rfl
theorem r29 : E.row 29 = some ⟨.other, 1, 8, [.nilFunc], false⟩ := rfl
theorem r30 : E.row 30 = some ⟨.other, 1, 8, [.nilFunc], false⟩ := rfl
theorem r31 : E.row 31 = some ⟨.other, 1, 8, [.nilFunc], false⟩ := rfl
theorem r33 : E.row 33 = some ⟨.other, 1, 8, [.nilFunc], false⟩ := rfl
theorem r34 : E.row 34 = some ⟨.other, 1, 8, [.nilFunc], false⟩ := rfl
theorem r35 : E.row 35 = some ⟨.other, 1, 8, [.nilFunc], false⟩ := rfl
theorem r36 : E.row 36 = some ⟨.other, 1, 8, [.nilFunc], false⟩ := rfl
theorem r37 : E.row 37 = some ⟨.other, 1, 8, [.nilFunc], false⟩ := rfl
theorem r38 : E.row 38 = some ⟨.other, 1, 8, [.nilFunc], false⟩ := rfl
theorem r40 : E.row 40 = some ⟨.other, 1, 8, [.nilFunc], false⟩ := rfl
theorem r41 : E.row 41 = some ⟨.other, 1, 8, [.nilFunc], false⟩ := rfl
theorem r42 : E.row 42 = some ⟨.other, 1, 8, [.nilFunc], false⟩ := rfl
theorem r43 : E.row 43 = some ⟨.other, 1, 8, [.nilFunc], false⟩ := rfl
theorem r45 : E.row 45 = some ⟨.other, 1, 8, [.nilFunc], false⟩ := rfl
theorem r46 : E.row 46 = some ⟨.other, 1, 8, [.nilFunc], false⟩ := rfl
theorem r47 : E.row 47 = some ⟨.other, 1, 8, [.nilFunc], false⟩ := rfl
theorem r48 : E.row 48 = some ⟨.other, 1, 8, [.nilFunc], false⟩ := rfl
theorem r49 : E.row 49 = some ⟨.other, 1, 8, [.nilFunc], false⟩ := rfl
theorem r50 : E.row 50 = some ⟨.other, 1, 8, [.nilFunc], false⟩ := rfl
theorem r51 : E.row 51 = some ⟨.other, 1, 8, [.nilFunc], false⟩ := rfl
theorem r52 : E.row 52 = some ⟨.other, 1, 8, [.nilFunc], false⟩ := rfl
theorem r53 : E.row 53 = some ⟨.other, 1, 8, [.nilFunc], false⟩ := rfl
theorem r54 : E.row 54 = some ⟨.other, 1, 8, [.nilFunc], false⟩ := rfl
theorem r55 : E.row 55 = some ⟨.other, 1, 8, [.nilFunc], false⟩ := rfl
theorem r57 : E.row 57 = some ⟨.other, 1, 8, [.nilFunc], false⟩ := rfl
theorem r59 : E.row 59 = some ⟨.other, 1, 8, [.nilFunc], false⟩ := rfl
theorem r60 : E.row 60 = some ⟨.other, 1, 8, [.nilFunc], false⟩ := rfl
theorem r61 : E.row 61 = some ⟨.int .u64, 1, 8, [.int .u64 0], false⟩ := rfl
theorem r62 : E.row 62 = some ⟨.struct [(0, 61), (1, 61), (2, 61)], 3, 24, [.int .u64 0, .int .u64 0, .int .u64 0], false⟩ := rfl
theorem r63 : E.row 63 = some ⟨.struct [(0, 61), (1, 61), (2, 61)], 3, 24, [.int .u64 0, .int .u64 0, .int .u64 0], false⟩ := rfl
theorem r64 : E.row 64 = some ⟨.other, 1, 8, [.nilFunc], false⟩ := rfl
theorem r65 : E.row 65 = some ⟨.other, 1, 8, [.nilFunc], false⟩ := rfl
theorem r66 : E.row 66 = some ⟨.slice 22, 1, 24, [.slice none 0 0], false⟩ := rfl
theorem r67 : E.row 67 = some ⟨.other, 1, 8, [.nilFunc], false⟩ := rfl
theorem r68 : E.row 68 = some ⟨.int .u64, 1, 8, [.int .u64 0], false⟩ := rfl
theorem r70 : E.row 70 = some ⟨.other, 1, 8, [.nilFunc], false⟩ := rfl
theorem r71 : E.row 71 = some ⟨.other, 1, 8, [.nilFunc], false⟩ := rfl
theorem r72 : E.row 72 = some ⟨.other, 1, 8, [.nilFunc], false⟩ := rfl
theorem r73 : E.row 73 = some ⟨.array 3 61, 3, 24, [.int .u64 0, .int .u64 0, .int .u64 0], false⟩ := rfl
theorem r74 : E.row 74 = some ⟨.array 3 61, 3, 24, [.int .u64 0, .int .u64 0, .int .u64 0], false⟩ := rfl
theorem r75 : E.row 75 = some ⟨.other, 1, 8, [.nilFunc], false⟩ := rfl
theorem r76 : E.row 76 = some ⟨.other, 1, 8, [.nilFunc], false⟩ := rfl
theorem r77 : E.row 77 = some ⟨.other, 1, 8, [.nilFunc], false⟩ := rfl
theorem r78 : E.row 78 = some ⟨.pointer 74, 1, 8, [.pointer none], false⟩ := rfl
theorem r79 : E.row 79 = some ⟨.other, 1, 8, [.nilFunc], false⟩ := rfl
theorem r80 : E.row 80 = some ⟨.struct [(0, 17), (1, 17), (2, 17), (3, 9)], 4, 40, [.pointer none, .pointer none, .pointer none, .string ByteArray.empty], false⟩ := rfl
theorem r81 : E.row 81 = some ⟨.struct [(0, 17), (1, 17), (2, 17), (3, 9)], 4, 40, [.pointer none, .pointer none, .pointer none, .string ByteArray.empty], false⟩ := rfl
theorem r85 : E.row 85 = some ⟨.other, 1, 8, [.nilFunc], false⟩ := rfl
theorem r86 : E.row 86 = some ⟨.int .u32, 1, 4, [.int .u32 0], false⟩ := rfl
theorem r87 : E.row 87 = some ⟨.int .u8, 1, 1, [.int .u8 0], false⟩ := rfl
theorem r88 : E.row 88 = some ⟨.int .u8, 1, 1, [.int .u8 0], false⟩ := rfl
theorem r89 : E.row 89 = some ⟨.other, 1, 8, [.nilFunc], false⟩ := rfl
theorem r90 : E.row 90 = some ⟨.pointer 5, 1, 8, [.pointer none], false⟩ := rfl
theorem r91 : E.row 91 = some ⟨.int .i32, 1, 4, [.int .i32 0], false⟩ := rfl
theorem r92 : E.row 92 = some ⟨.int .i32, 1, 4, [.int .i32 0], false⟩ := rfl
theorem r93 : E.row 93 = some ⟨.struct [(0, 12), (1, 12), (2, 86), (3, 87), (4, 5), (5, 5), (6, 88), (7, 89), (8, 90), (9, 91), (10, 92)], 11, 48, [.int .u64 0, .int .u64 0, .int .u32 0, .int .u8 0, .int .u8 0, .int .u8 0, .int .u8 0, .nilFunc, .pointer none, .int .i32 0, .int .i32 0], false⟩ := rfl
theorem r94 : E.row 94 = some ⟨.struct [(0, 12), (1, 12), (2, 86), (3, 87), (4, 5), (5, 5), (6, 88), (7, 89), (8, 90), (9, 91), (10, 92)], 11, 48, [.int .u64 0, .int .u64 0, .int .u32 0, .int .u8 0, .int .u8 0, .int .u8 0, .int .u8 0, .nilFunc, .pointer none, .int .i32 0, .int .i32 0], false⟩ := rfl
theorem b2 : E.body 2 = some (Try.f2.body.getD .skip, Try.f2.results.toList) := rfl
theorem b3 : E.body 3 = some (Try.f3.body.getD .skip, Try.f3.results.toList) := rfl
theorem b4 : E.body 4 = some (Try.f4.body.getD .skip, Try.f4.results.toList) := rfl
theorem b5 : E.body 5 = some (Try.f5.body.getD .skip, Try.f5.results.toList) := rfl
theorem b6 : E.body 6 = some (Try.f6.body.getD .skip, Try.f6.results.toList) := rfl
theorem b7 : E.body 7 = some (Try.f7.body.getD .skip, Try.f7.results.toList) := rfl
theorem b8 : E.body 8 = some (Try.f8.body.getD .skip, Try.f8.results.toList) := rfl
theorem b9 : E.body 9 = some (Try.f9.body.getD .skip, Try.f9.results.toList) := rfl
theorem b10 : E.body 10 = some (Try.f10.body.getD .skip, Try.f10.results.toList) := rfl
theorem b11 : E.body 11 = some (Try.f11.body.getD .skip, Try.f11.results.toList) := rfl
theorem b12 : E.body 12 = some (Try.f12.body.getD .skip, Try.f12.results.toList) := rfl
theorem b13 : E.body 13 = some (Try.f13.body.getD .skip, Try.f13.results.toList) := rfl
theorem b14 : E.body 14 = some (Try.f14.body.getD .skip, Try.f14.results.toList) := rfl
theorem b15 : E.body 15 = some (Try.f15.body.getD .skip, Try.f15.results.toList) := rfl
theorem b16 : E.body 16 = some (Try.f16.body.getD .skip, Try.f16.results.toList) := rfl
theorem b17 : E.body 17 = some (Try.f17.body.getD .skip, Try.f17.results.toList) := rfl
theorem b18 : E.body 18 = some (Try.f18.body.getD .skip, Try.f18.results.toList) := rfl
theorem b19 : E.body 19 = some (Try.f19.body.getD .skip, Try.f19.results.toList) := rfl
theorem b20 : E.body 20 = some (Try.f20.body.getD .skip, Try.f20.results.toList) := rfl
theorem b21 : E.body 21 = some (Try.f21.body.getD .skip, Try.f21.results.toList) := rfl
theorem b22 : E.body 22 = some (Try.f22.body.getD .skip, Try.f22.results.toList) := rfl
theorem b23 : E.body 23 = some (Try.f23.body.getD .skip, Try.f23.results.toList) := rfl
theorem b24 : E.body 24 = some (Try.f24.body.getD .skip, Try.f24.results.toList) := rfl
theorem b25 : E.body 25 = some (Try.f25.body.getD .skip, Try.f25.results.toList) := rfl
theorem b26 : E.body 26 = some (Try.f26.body.getD .skip, Try.f26.results.toList) := rfl
theorem b27 : E.body 27 = some (Try.f27.body.getD .skip, Try.f27.results.toList) := rfl
theorem b28 : E.body 28 = some (Try.f28.body.getD .skip, Try.f28.results.toList) := rfl
theorem b29 : E.body 29 = some (Try.f29.body.getD .skip, Try.f29.results.toList) := rfl
theorem b30 : E.body 30 = some (Try.f30.body.getD .skip, Try.f30.results.toList) := rfl
theorem b31 : E.body 31 = some (Try.f31.body.getD .skip, Try.f31.results.toList) := rfl
theorem b32 : E.body 32 = some (Try.f32.body.getD .skip, Try.f32.results.toList) := rfl
theorem b33 : E.body 33 = some (Try.f33.body.getD .skip, Try.f33.results.toList) := rfl
theorem b34 : E.body 34 = some (Try.f34.body.getD .skip, Try.f34.results.toList) := rfl
theorem b35 : E.body 35 = some (Try.f35.body.getD .skip, Try.f35.results.toList) := rfl
theorem b36 : E.body 36 = some (Try.f36.body.getD .skip, Try.f36.results.toList) := rfl
theorem b37 : E.body 37 = some (Try.f37.body.getD .skip, Try.f37.results.toList) := rfl
theorem b38 : E.body 38 = some (Try.f38.body.getD .skip, Try.f38.results.toList) := rfl
theorem b39 : E.body 39 = some (Try.f39.body.getD .skip, Try.f39.results.toList) := rfl
theorem b40 : E.body 40 = some (Try.f40.body.getD .skip, Try.f40.results.toList) := rfl
theorem b41 : E.body 41 = some (Try.f41.body.getD .skip, Try.f41.results.toList) := rfl
theorem b42 : E.body 42 = some (Try.f42.body.getD .skip, Try.f42.results.toList) := rfl
theorem b43 : E.body 43 = some (Try.f43.body.getD .skip, Try.f43.results.toList) := rfl
theorem b44 : E.body 44 = some (Try.f44.body.getD .skip, Try.f44.results.toList) := rfl
theorem b45 : E.body 45 = some (Try.f45.body.getD .skip, Try.f45.results.toList) := rfl
theorem b46 : E.body 46 = some (Try.f46.body.getD .skip, Try.f46.results.toList) := rfl
theorem b47 : E.body 47 = some (Try.f47.body.getD .skip, Try.f47.results.toList) := rfl
theorem b48 : E.body 48 = some (Try.f48.body.getD .skip, Try.f48.results.toList) := rfl
theorem b49 : E.body 49 = some (Try.f49.body.getD .skip, Try.f49.results.toList) := rfl
theorem b50 : E.body 50 = some (Try.f50.body.getD .skip, Try.f50.results.toList) := rfl
theorem b51 : E.body 51 = some (Try.f51.body.getD .skip, Try.f51.results.toList) := rfl
theorem b52 : E.body 52 = some (Try.f52.body.getD .skip, Try.f52.results.toList) := rfl
theorem b53 : E.body 53 = some (Try.f53.body.getD .skip, Try.f53.results.toList) := rfl
theorem b54 : E.body 54 = some (Try.f54.body.getD .skip, Try.f54.results.toList) := rfl
theorem b55 : E.body 55 = some (Try.f55.body.getD .skip, Try.f55.results.toList) := rfl
theorem b56 : E.body 56 = some (Try.f56.body.getD .skip, Try.f56.results.toList) := rfl
theorem b57 : E.body 57 = some (Try.f57.body.getD .skip, Try.f57.results.toList) := rfl
theorem b58 : E.body 58 = some (Try.f58.body.getD .skip, Try.f58.results.toList) := rfl
theorem b59 : E.body 59 = some (Try.f59.body.getD .skip, Try.f59.results.toList) := rfl
theorem b60 : E.body 60 = some (Try.f60.body.getD .skip, Try.f60.results.toList) := rfl
theorem b61 : E.body 61 = some (Try.f61.body.getD .skip, Try.f61.results.toList) := rfl
theorem b62 : E.body 62 = some (Try.f62.body.getD .skip, Try.f62.results.toList) := rfl
theorem b63 : E.body 63 = some (Try.f63.body.getD .skip, Try.f63.results.toList) := rfl
theorem b64 : E.body 64 = some (Try.f64.body.getD .skip, Try.f64.results.toList) := rfl
theorem b65 : E.body 65 = some (Try.f65.body.getD .skip, Try.f65.results.toList) := rfl
theorem b66 : E.body 66 = some (Try.f66.body.getD .skip, Try.f66.results.toList) := rfl
theorem b67 : E.body 67 = some (Try.f67.body.getD .skip, Try.f67.results.toList) := rfl
theorem b68 : E.body 68 = some (Try.f68.body.getD .skip, Try.f68.results.toList) := rfl
theorem b69 : E.body 69 = some (Try.f69.body.getD .skip, Try.f69.results.toList) := rfl
theorem b70 : E.body 70 = some (Try.f70.body.getD .skip, Try.f70.results.toList) := rfl
theorem lv10_4 : E.live 10 4 = [1, 3] := rfl
theorem lv16_4 : E.live 16 4 = [0, 1, 5] := rfl
theorem lv17_2 : E.live 17 2 = [0, 1, 5] := rfl
theorem lv18_2 : E.live 18 2 = [0, 1, 5] := rfl
theorem lv21_20 : E.live 21 20 = [0, 2, 4, 5, 8, 9] := rfl
theorem lv22_3 : E.live 22 3 = [0, 3, 4] := rfl
theorem lv27_5 : E.live 27 5 = [0, 5, 6, 7, 15] := rfl
theorem lv33_3 : E.live 33 3 = [0, 3, 4] := rfl
theorem lv39_4 : E.live 39 4 = [0, 1, 5] := rfl
theorem lv40_5 : E.live 40 5 = [0, 3, 4] := rfl
theorem lv41_5 : E.live 41 5 = [0, 1, 5, 6] := rfl
theorem lv44_3 : E.live 44 3 = [0, 3, 9, 10, 11] := rfl
theorem lv44_11 : E.live 44 11 = [6, 25, 26, 27] := rfl
theorem lv46_3 : E.live 46 3 = [0, 5, 6] := rfl
theorem lv48_3 : E.live 48 3 = [0, 4, 5] := rfl
theorem lv50_4 : E.live 50 4 = [0, 2, 4, 5, 6, 7, 25, 26] := rfl
theorem lv51_2 : E.live 51 2 = [0, 1, 5] := rfl
theorem lv52_2 : E.live 52 2 = [0, 1, 5] := rfl
theorem lv55_2 : E.live 55 2 = [0, 1, 7, 8] := rfl
theorem lv57_2 : E.live 57 2 = [0, 2, 4, 7] := rfl
theorem lv59_6 : E.live 59 6 = [0, 8, 9, 27, 28] := rfl
theorem lv60_3 : E.live 60 3 = [3, 6, 7, 8] := rfl
theorem lv66_1 : E.live 66 1 = [0, 1, 6, 7, 8] := rfl
theorem lv68_1 : E.live 68 1 = [0, 4, 5] := rfl
theorem ld2 : E.lend 2 = [] := rfl
theorem ld3 : E.lend 3 = [] := rfl
theorem ld4 : E.lend 4 = [] := rfl
theorem ld5 : E.lend 5 = [] := rfl
theorem ld6 : E.lend 6 = [] := rfl
theorem ld7 : E.lend 7 = [] := rfl
theorem ld8 : E.lend 8 = [] := rfl
theorem ld9 : E.lend 9 = [] := rfl
theorem ld10 : E.lend 10 = [] := rfl
theorem ld11 : E.lend 11 = [] := rfl
theorem ld12 : E.lend 12 = [] := rfl
theorem ld13 : E.lend 13 = [] := rfl
theorem ld14 : E.lend 14 = [] := rfl
theorem ld15 : E.lend 15 = [] := rfl
theorem ld16 : E.lend 16 = [] := rfl
theorem ld17 : E.lend 17 = [true, false] := rfl
theorem ld18 : E.lend 18 = [] := rfl
theorem ld19 : E.lend 19 = [] := rfl
theorem ld20 : E.lend 20 = [] := rfl
theorem ld21 : E.lend 21 = [] := rfl
theorem ld22 : E.lend 22 = [] := rfl
theorem ld23 : E.lend 23 = [] := rfl
theorem ld24 : E.lend 24 = [true, false] := rfl
theorem ld25 : E.lend 25 = [] := rfl
theorem ld26 : E.lend 26 = [] := rfl
theorem ld27 : E.lend 27 = [] := rfl
theorem ld28 : E.lend 28 = [] := rfl
theorem ld29 : E.lend 29 = [] := rfl
theorem ld30 : E.lend 30 = [] := rfl
theorem ld31 : E.lend 31 = [] := rfl
theorem ld32 : E.lend 32 = [] := rfl
theorem ld33 : E.lend 33 = [] := rfl
theorem ld34 : E.lend 34 = [] := rfl
theorem ld35 : E.lend 35 = [] := rfl
theorem ld36 : E.lend 36 = [] := rfl
theorem ld37 : E.lend 37 = [] := rfl
theorem ld38 : E.lend 38 = [] := rfl
theorem ld39 : E.lend 39 = [] := rfl
theorem ld40 : E.lend 40 = [] := rfl
theorem ld41 : E.lend 41 = [] := rfl
theorem ld42 : E.lend 42 = [] := rfl
theorem ld43 : E.lend 43 = [] := rfl
theorem ld44 : E.lend 44 = [] := rfl
theorem ld45 : E.lend 45 = [] := rfl
theorem ld46 : E.lend 46 = [] := rfl
theorem ld47 : E.lend 47 = [] := rfl
theorem ld48 : E.lend 48 = [] := rfl
theorem ld49 : E.lend 49 = [] := rfl
theorem ld50 : E.lend 50 = [] := rfl
theorem ld51 : E.lend 51 = [true, false] := rfl
theorem ld52 : E.lend 52 = [] := rfl
theorem ld53 : E.lend 53 = [] := rfl
theorem ld54 : E.lend 54 = [] := rfl
theorem ld55 : E.lend 55 = [] := rfl
theorem ld56 : E.lend 56 = [] := rfl
theorem ld57 : E.lend 57 = [] := rfl
theorem ld58 : E.lend 58 = [] := rfl
theorem ld59 : E.lend 59 = [] := rfl
theorem ld60 : E.lend 60 = [] := rfl
theorem ld61 : E.lend 61 = [] := rfl
theorem ld62 : E.lend 62 = [] := rfl
theorem ld63 : E.lend 63 = [] := rfl
theorem ld64 : E.lend 64 = [] := rfl
theorem ld65 : E.lend 65 = [] := rfl
theorem ld66 : E.lend 66 = [true, false] := rfl
theorem ld67 : E.lend 67 = [true, false] := rfl
theorem ld68 : E.lend 68 = [true, false] := rfl
theorem ld69 : E.lend 69 = [] := rfl
theorem ld70 : E.lend 70 = [] := rfl

theorem rowsOK : rows.all (fun p => rowB Try.prog p.1 p.2) = true := by kernel_rfl
theorem EOK : E.OK Try.prog := fun t r h => rows_ok (E := E) rowsOK t r h

theorem fb2 : funcB Try.f2 = true := by kernel_rfl
theorem fb3 : funcB Try.f3 = true := by kernel_rfl
theorem fb4 : funcB Try.f4 = true := by kernel_rfl
theorem fb5 : funcB Try.f5 = true := by kernel_rfl
theorem fb6 : funcB Try.f6 = true := by kernel_rfl
theorem fb7 : funcB Try.f7 = true := by kernel_rfl
theorem fb8 : funcB Try.f8 = true := by kernel_rfl
theorem fb9 : funcB Try.f9 = true := by kernel_rfl
theorem fb10 : funcB Try.f10 = true := by kernel_rfl
theorem fb11 : funcB Try.f11 = true := by kernel_rfl
theorem fb12 : funcB Try.f12 = true := by kernel_rfl
theorem fb13 : funcB Try.f13 = true := by kernel_rfl
theorem fb14 : funcB Try.f14 = true := by kernel_rfl
theorem fb15 : funcB Try.f15 = true := by kernel_rfl
theorem fb16 : funcB Try.f16 = true := by kernel_rfl
theorem fb17 : funcB Try.f17 = true := by kernel_rfl
theorem fb18 : funcB Try.f18 = true := by kernel_rfl
theorem fb19 : funcB Try.f19 = true := by kernel_rfl
theorem fb20 : funcB Try.f20 = true := by kernel_rfl
theorem fb21 : funcB Try.f21 = true := by kernel_rfl
theorem fb22 : funcB Try.f22 = true := by kernel_rfl
theorem fb23 : funcB Try.f23 = true := by kernel_rfl
theorem fb24 : funcB Try.f24 = true := by kernel_rfl
theorem fb25 : funcB Try.f25 = true := by kernel_rfl
theorem fb26 : funcB Try.f26 = true := by kernel_rfl
theorem fb27 : funcB Try.f27 = true := by kernel_rfl
theorem fb28 : funcB Try.f28 = true := by kernel_rfl
theorem fb29 : funcB Try.f29 = true := by kernel_rfl
theorem fb30 : funcB Try.f30 = true := by kernel_rfl
theorem fb31 : funcB Try.f31 = true := by kernel_rfl
theorem fb32 : funcB Try.f32 = true := by kernel_rfl
theorem fb33 : funcB Try.f33 = true := by kernel_rfl
theorem fb34 : funcB Try.f34 = true := by kernel_rfl
theorem fb35 : funcB Try.f35 = true := by kernel_rfl
theorem fb36 : funcB Try.f36 = true := by kernel_rfl
theorem fb37 : funcB Try.f37 = true := by kernel_rfl
theorem fb38 : funcB Try.f38 = true := by kernel_rfl
theorem fb39 : funcB Try.f39 = true := by kernel_rfl
theorem fb40 : funcB Try.f40 = true := by kernel_rfl
theorem fb41 : funcB Try.f41 = true := by kernel_rfl
theorem fb42 : funcB Try.f42 = true := by kernel_rfl
theorem fb43 : funcB Try.f43 = true := by kernel_rfl
theorem fb44 : funcB Try.f44 = true := by kernel_rfl
theorem fb45 : funcB Try.f45 = true := by kernel_rfl
theorem fb46 : funcB Try.f46 = true := by kernel_rfl
theorem fb47 : funcB Try.f47 = true := by kernel_rfl
theorem fb48 : funcB Try.f48 = true := by kernel_rfl
theorem fb49 : funcB Try.f49 = true := by kernel_rfl
theorem fb50 : funcB Try.f50 = true := by kernel_rfl
theorem fb51 : funcB Try.f51 = true := by kernel_rfl
theorem fb52 : funcB Try.f52 = true := by kernel_rfl
theorem fb53 : funcB Try.f53 = true := by kernel_rfl
theorem fb54 : funcB Try.f54 = true := by kernel_rfl
theorem fb55 : funcB Try.f55 = true := by kernel_rfl
theorem fb56 : funcB Try.f56 = true := by kernel_rfl
theorem fb57 : funcB Try.f57 = true := by kernel_rfl
theorem fb58 : funcB Try.f58 = true := by kernel_rfl
theorem fb59 : funcB Try.f59 = true := by kernel_rfl
theorem fb60 : funcB Try.f60 = true := by kernel_rfl
theorem fb61 : funcB Try.f61 = true := by kernel_rfl
theorem fb62 : funcB Try.f62 = true := by kernel_rfl
theorem fb63 : funcB Try.f63 = true := by kernel_rfl
theorem fb64 : funcB Try.f64 = true := by kernel_rfl
theorem fb65 : funcB Try.f65 = true := by kernel_rfl
theorem fb66 : funcB Try.f66 = true := by kernel_rfl
theorem fb67 : funcB Try.f67 = true := by kernel_rfl
theorem fb68 : funcB Try.f68 = true := by kernel_rfl
theorem fb69 : funcB Try.f69 = true := by kernel_rfl
theorem fb70 : funcB Try.f70 = true := by kernel_rfl
theorem EB : E.Bodies Try.prog := ⟨fun f c rs h => bodies_ok (l := funs) (by
  intro p hp
  simp only [funs, List.mem_cons, List.not_mem_nil, or_false] at hp
  rcases hp with rfl | rfl | rfl | rfl | rfl | rfl | rfl | rfl | rfl | rfl | rfl | rfl | rfl | rfl | rfl | rfl | rfl | rfl | rfl | rfl | rfl | rfl | rfl | rfl | rfl | rfl | rfl | rfl | rfl | rfl | rfl | rfl | rfl | rfl | rfl | rfl | rfl | rfl | rfl | rfl | rfl | rfl | rfl | rfl | rfl | rfl | rfl | rfl | rfl | rfl | rfl | rfl | rfl | rfl | rfl | rfl | rfl | rfl | rfl | rfl | rfl | rfl | rfl | rfl | rfl | rfl | rfl | rfl | rfl
  · exact ⟨Try.func2, fb2⟩
  · exact ⟨Try.func3, fb3⟩
  · exact ⟨Try.func4, fb4⟩
  · exact ⟨Try.func5, fb5⟩
  · exact ⟨Try.func6, fb6⟩
  · exact ⟨Try.func7, fb7⟩
  · exact ⟨Try.func8, fb8⟩
  · exact ⟨Try.func9, fb9⟩
  · exact ⟨Try.func10, fb10⟩
  · exact ⟨Try.func11, fb11⟩
  · exact ⟨Try.func12, fb12⟩
  · exact ⟨Try.func13, fb13⟩
  · exact ⟨Try.func14, fb14⟩
  · exact ⟨Try.func15, fb15⟩
  · exact ⟨Try.func16, fb16⟩
  · exact ⟨Try.func17, fb17⟩
  · exact ⟨Try.func18, fb18⟩
  · exact ⟨Try.func19, fb19⟩
  · exact ⟨Try.func20, fb20⟩
  · exact ⟨Try.func21, fb21⟩
  · exact ⟨Try.func22, fb22⟩
  · exact ⟨Try.func23, fb23⟩
  · exact ⟨Try.func24, fb24⟩
  · exact ⟨Try.func25, fb25⟩
  · exact ⟨Try.func26, fb26⟩
  · exact ⟨Try.func27, fb27⟩
  · exact ⟨Try.func28, fb28⟩
  · exact ⟨Try.func29, fb29⟩
  · exact ⟨Try.func30, fb30⟩
  · exact ⟨Try.func31, fb31⟩
  · exact ⟨Try.func32, fb32⟩
  · exact ⟨Try.func33, fb33⟩
  · exact ⟨Try.func34, fb34⟩
  · exact ⟨Try.func35, fb35⟩
  · exact ⟨Try.func36, fb36⟩
  · exact ⟨Try.func37, fb37⟩
  · exact ⟨Try.func38, fb38⟩
  · exact ⟨Try.func39, fb39⟩
  · exact ⟨Try.func40, fb40⟩
  · exact ⟨Try.func41, fb41⟩
  · exact ⟨Try.func42, fb42⟩
  · exact ⟨Try.func43, fb43⟩
  · exact ⟨Try.func44, fb44⟩
  · exact ⟨Try.func45, fb45⟩
  · exact ⟨Try.func46, fb46⟩
  · exact ⟨Try.func47, fb47⟩
  · exact ⟨Try.func48, fb48⟩
  · exact ⟨Try.func49, fb49⟩
  · exact ⟨Try.func50, fb50⟩
  · exact ⟨Try.func51, fb51⟩
  · exact ⟨Try.func52, fb52⟩
  · exact ⟨Try.func53, fb53⟩
  · exact ⟨Try.func54, fb54⟩
  · exact ⟨Try.func55, fb55⟩
  · exact ⟨Try.func56, fb56⟩
  · exact ⟨Try.func57, fb57⟩
  · exact ⟨Try.func58, fb58⟩
  · exact ⟨Try.func59, fb59⟩
  · exact ⟨Try.func60, fb60⟩
  · exact ⟨Try.func61, fb61⟩
  · exact ⟨Try.func62, fb62⟩
  · exact ⟨Try.func63, fb63⟩
  · exact ⟨Try.func64, fb64⟩
  · exact ⟨Try.func65, fb65⟩
  · exact ⟨Try.func66, fb66⟩
  · exact ⟨Try.func67, fb67⟩
  · exact ⟨Try.func68, fb68⟩
  · exact ⟨Try.func69, fb69⟩
  · exact ⟨Try.func70, fb70⟩) f c rs h⟩
theorem EP : Try.prog.follows .mixedOrders = true := by kernel_rfl
theorem EH : OrcOK Try.prog E.hand := fun f args cts x cts' h => by simp [E] at h
end Go.Proofs.Ytlmifbpihlcabaa.VH.S
