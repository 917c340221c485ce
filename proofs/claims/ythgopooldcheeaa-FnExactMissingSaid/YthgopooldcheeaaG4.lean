/- Part of a proof about the given program: a verified evaluator, and what it tells of the functions (VhKS1, VhKFA, VhKFD, VhKFS, VhKFS2, VhKFM, VhKFX, VhKFQ, VhKFGa, VhKFGb, VhKFGc, VhKFGd). Conditions: none beyond the hypotheses that each theorem states. -/
import Derived.Test.YthgopooldcheeaaG3
import Derived.Test.YthgopooldcheeaaProg
set_option linter.unusedSimpArgs false
set_option linter.unusedVariables false
set_option linter.defProp false
section
namespace Go.Proofs.Ythgopooldcheeaa.VH.S
open Go.Proofs
set_option maxRecDepth 100000

def rows : List (TypeId × Row) := [(1, ⟨.other, 1, 8, [.nilFunc], false⟩),
  (2, ⟨.int .i64, 1, 8, [.int .i64 0], false⟩),
  (3, ⟨.int .i64, 1, 8, [.int .i64 0], false⟩),
  (4, ⟨.bool, 1, 1, [.bool false], false⟩),
  (5, ⟨.int .u8, 1, 1, [.int .u8 0], false⟩),
  (6, ⟨.int .u8, 1, 1, [.int .u8 0], false⟩),
  (7, ⟨.struct [(0, 2), (1, 3), (2, 4), (3, 6)], 4, 24, [.int .i64 0, .int .i64 0, .bool false, .int .u8 0], false⟩),
  (8, ⟨.struct [(0, 2), (1, 3), (2, 4), (3, 6)], 4, 24, [.int .i64 0, .int .i64 0, .bool false, .int .u8 0], false⟩),
  (9, ⟨.string, 1, 16, [.string ByteArray.empty], false⟩),
  (10, ⟨.string, 1, 16, [.string ByteArray.empty], false⟩),
  (11, ⟨.string, 1, 16, [.string ByteArray.empty], false⟩),
  (12, ⟨.int .u64, 1, 8, [.int .u64 0], false⟩),
  (13, ⟨.struct [(0, 9), (1, 12)], 2, 24, [.string ByteArray.empty, .int .u64 0], false⟩),
  (14, ⟨.struct [(0, 9), (1, 12)], 2, 24, [.string ByteArray.empty, .int .u64 0], false⟩),
  (15, ⟨.pointer 64, 1, 8, [.pointer none], false⟩),
  (16, ⟨.pointer 67, 1, 8, [.pointer none], false⟩),
  (17, ⟨.pointer 77, 1, 8, [.pointer none], false⟩),
  (18, ⟨.struct [(0, 17)], 1, 8, [.pointer none], false⟩),
  (19, ⟨.struct [(0, 17)], 1, 8, [.pointer none], false⟩),
  (21, ⟨.int .i32, 1, 4, [.int .i32 0], false⟩),
  (22, ⟨.slice 3, 1, 24, [.slice none 0 0], false⟩),
  (23, ⟨.slice 25, 1, 24, [.slice none 0 0], false⟩),
  (24, ⟨.other, 1, 8, [.nilFunc], false⟩),
  (25, ⟨.slice 5, 1, 24, [.slice none 0 0], false⟩),
  (27, ⟨.other, 1, 8, [.nilFunc], false⟩),
  (28, ⟨.other, 1, 8, [.nilFunc], false⟩),
  (29, ⟨.other, 1, 8, [.nilFunc], false⟩),
  (30, ⟨.other, 1, 8, [.nilFunc], false⟩),
  (31, ⟨.other, 1, 8, [.nilFunc], false⟩),
  (32, ⟨.other, 1, 8, [.nilFunc], false⟩),
  (33, ⟨.other, 1, 8, [.nilFunc], false⟩),
  (34, ⟨.other, 1, 8, [.nilFunc], false⟩),
  (35, ⟨.other, 1, 8, [.nilFunc], false⟩),
  (36, ⟨.other, 1, 8, [.nilFunc], false⟩),
  (37, ⟨.other, 1, 8, [.nilFunc], false⟩),
  (38, ⟨.other, 1, 8, [.nilFunc], false⟩),
  (39, ⟨.other, 1, 8, [.nilFunc], false⟩),
  (40, ⟨.other, 1, 8, [.nilFunc], false⟩),
  (42, ⟨.other, 1, 8, [.nilFunc], false⟩),
  (43, ⟨.other, 1, 8, [.nilFunc], false⟩),
  (44, ⟨.other, 1, 8, [.nilFunc], false⟩),
  (45, ⟨.other, 1, 8, [.nilFunc], false⟩),
  (46, ⟨.other, 1, 8, [.nilFunc], false⟩),
  (47, ⟨.other, 1, 8, [.nilFunc], false⟩),
  (48, ⟨.other, 1, 8, [.nilFunc], false⟩),
  (50, ⟨.other, 1, 8, [.nilFunc], false⟩),
  (51, ⟨.other, 1, 8, [.nilFunc], false⟩),
  (52, ⟨.other, 1, 8, [.nilFunc], false⟩),
  (53, ⟨.other, 1, 8, [.nilFunc], false⟩),
  (54, ⟨.other, 1, 8, [.nilFunc], false⟩),
  (55, ⟨.other, 1, 8, [.nilFunc], false⟩),
  (56, ⟨.other, 1, 8, [.nilFunc], false⟩),
  (57, ⟨.other, 1, 8, [.nilFunc], false⟩),
  (58, ⟨.int .u64, 1, 8, [.int .u64 0], false⟩),
  (59, ⟨.other, 1, 8, [.nilFunc], false⟩),
  (60, ⟨.other, 1, 8, [.nilFunc], false⟩),
  (61, ⟨.other, 1, 8, [.nilFunc], false⟩),
  (62, ⟨.other, 1, 8, [.nilFunc], false⟩),
  (63, ⟨.struct [(0, 17), (1, 17), (2, 17), (3, 9)], 4, 40, [.pointer none, .pointer none, .pointer none, .string ByteArray.empty], false⟩),
  (64, ⟨.struct [(0, 17), (1, 17), (2, 17), (3, 9)], 4, 40, [.pointer none, .pointer none, .pointer none, .string ByteArray.empty], false⟩),
  (68, ⟨.other, 1, 8, [.nilFunc], false⟩),
  (69, ⟨.int .u32, 1, 4, [.int .u32 0], false⟩),
  (70, ⟨.int .u8, 1, 1, [.int .u8 0], false⟩),
  (71, ⟨.int .u8, 1, 1, [.int .u8 0], false⟩),
  (72, ⟨.other, 1, 8, [.nilFunc], false⟩),
  (73, ⟨.pointer 5, 1, 8, [.pointer none], false⟩),
  (74, ⟨.int .i32, 1, 4, [.int .i32 0], false⟩),
  (75, ⟨.int .i32, 1, 4, [.int .i32 0], false⟩),
  (76, ⟨.struct [(0, 12), (1, 12), (2, 69), (3, 70), (4, 5), (5, 5), (6, 71), (7, 72), (8, 73), (9, 74), (10, 75)], 11, 48, [.int .u64 0, .int .u64 0, .int .u32 0, .int .u8 0, .int .u8 0, .int .u8 0, .int .u8 0, .nilFunc, .pointer none, .int .i32 0, .int .i32 0], false⟩),
  (77, ⟨.struct [(0, 12), (1, 12), (2, 69), (3, 70), (4, 5), (5, 5), (6, 71), (7, 72), (8, 73), (9, 74), (10, 75)], 11, 48, [.int .u64 0, .int .u64 0, .int .u32 0, .int .u8 0, .int .u8 0, .int .u8 0, .int .u8 0, .nilFunc, .pointer none, .int .i32 0, .int .i32 0], false⟩)]
noncomputable def funs : List (FuncId × Func) := [(2, Try.f2), (3, Try.f3), (4, Try.f4), (5, Try.f5), (6, Try.f6), (7, Try.f7), (8, Try.f8), (9, Try.f9), (10, Try.f10), (11, Try.f11), (12, Try.f12), (13, Try.f13), (14, Try.f14), (15, Try.f15), (16, Try.f16), (17, Try.f17), (18, Try.f18), (19, Try.f19), (20, Try.f20), (21, Try.f21), (22, Try.f22), (23, Try.f23), (24, Try.f24), (25, Try.f25), (26, Try.f26), (27, Try.f27), (28, Try.f28), (29, Try.f29), (30, Try.f30), (31, Try.f31), (32, Try.f32), (33, Try.f33), (34, Try.f34), (35, Try.f35), (36, Try.f36), (37, Try.f37), (38, Try.f38), (39, Try.f39), (40, Try.f40), (41, Try.f41), (42, Try.f42), (43, Try.f43), (44, Try.f44), (45, Try.f45), (46, Try.f46), (47, Try.f47), (48, Try.f48), (49, Try.f49), (50, Try.f50), (51, Try.f51), (52, Try.f52), (53, Try.f53)]
def lookN {α : Type} (d : α) : List (Nat × α) → Nat → α
  | [], _ => d
  | (a, x) :: r, n => if n = a then x else lookN d r n
def lends : List (Nat × List Bool) := [(13, [true, false]), (14, [true, false]), (15, [true, false])]
def lives : List (Nat × List (Nat × List Nat)) := [(5, [(5, [0, 1, 5])]),
  (6, [(6, [0, 2, 3, 4, 12, 13, 14]), (14, [0, 2, 4, 12, 13, 15, 16]), (17, [0, 2, 4, 12, 13, 15, 16, 17])]),
  (7, [(3, [0, 3, 4])]),
  (8, [(3, [0, 3, 4])]),
  (10, [(4, [0, 1, 5])]),
  (11, [(4, [0, 1, 5])]),
  (12, [(4, [0, 1, 5])]),
  (13, [(2, [0, 1, 5])]),
  (14, [(2, [0, 1, 5])]),
  (15, [(2, [0, 1, 5])]),
  (16, [(2, [0, 1, 5])]),
  (21, [(4, [0, 1, 7]), (9, [0, 1, 7, 8])]),
  (23, [(5, [0, 1, 2, 8, 9]), (9, [0, 1, 2, 8, 9, 10, 11, 12])]),
  (24, [(3, [0, 1, 5, 6])]),
  (25, [(3, [0, 3, 4])]),
  (29, [(3, [0, 1, 3, 9, 10, 18, 19, 20]), (8, [0, 1, 3, 9, 10, 30, 31])]),
  (31, [(8, [0, 1, 8, 9, 10, 11, 12]), (13, [0, 1, 8, 10, 11, 13]), (17, [0, 1, 8, 10, 11, 13, 14, 15])]),
  (33, [(5, [0, 7, 8, 9, 25, 26])]),
  (35, [(3, [1, 5, 6, 7])]),
  (38, [(2, [0, 1, 7, 8, 9])]),
  (39, [(2, [0, 1, 7, 8])]),
  (42, [(3, [1, 7, 17, 18, 19])]),
  (45, [(3, [3, 6, 7])]),
  (46, [(9, [0, 1, 5, 6])]),
  (48, [(3, [0, 1, 5, 15, 16, 17]), (7, [0, 1, 5, 6, 7, 8, 9, 15, 16, 17, 22, 23, 24])]),
  (49, [(5, [1, 2, 8, 17, 18, 19])]),
  (50, [(2, [0, 1, 7, 8])]),
  (51, [(3, [5, 6, 7])]),
  (53, [(7, [0, 1, 5])])]
def wks : List (Nat × Option Nat) := [(44, some 1)]
def boxs : List (Nat × Bool) := []
def notes : List (Nat × Bool) := []
def deeps : List (Nat × Bool) := []
def inss : List (Nat × Option Nat) := []
def cutfs : List (Nat × Bool) := []
def cuts : List (Nat × List (Nat × Option (List Nat))) := []
noncomputable def E : Env where
  hand := (fun _ _ _ => none)
  row := rowsOf rows
  lend := lookN [] lends
  live := fun f r => lookN [] (lookN [] lives f) r
  body := bodiesOf funs
  wk := lookN none wks
  boxf := lookN false boxs
  notef := lookN false notes
  deep := lookN false deeps
  insf := lookN none inss
  cutf := lookN false cutfs
  cut := fun f r => lookN none (lookN [] cuts f) r

theorem r1 : E.row 1 = some ⟨.other, 1, 8, [.nilFunc], false⟩ := rfl
theorem r2 : E.row 2 = some ⟨.int .i64, 1, 8, [.int .i64 0], false⟩ := rfl
theorem r3 : E.row 3 = some ⟨.int .i64, 1, 8, [.int .i64 0], false⟩ := rfl
theorem r4 : E.row 4 = some ⟨.bool, 1, 1, [.bool false], false⟩ := rfl
theorem r5 : E.row 5 = some ⟨.int .u8, 1, 1, [.int .u8 0], false⟩ := rfl
theorem r6 : E.row 6 = some ⟨.int .u8, 1, 1, [.int .u8 0], false⟩ := rfl
theorem r7 : E.row 7 = some ⟨.struct [(0, 2), (1, 3), (2, 4), (3, 6)], 4, 24, [.int .i64 0, .int .i64 0, .bool false, .int .u8 0], false⟩ := rfl
theorem r8 : E.row 8 = some ⟨.struct [(0, 2), (1, 3), (2, 4), (3, 6)], 4, 24, [.int .i64 0, .int .i64 0, .bool false, .int .u8 0], false⟩ := rfl
theorem r9 : E.row 9 = some ⟨.string, 1, 16, [.string ByteArray.empty], false⟩ := rfl
theorem r10 : E.row 10 = some ⟨.string, 1, 16, [.string ByteArray.empty], false⟩ := rfl
theorem r11 : E.row 11 = some ⟨.string, 1, 16, [.string ByteArray.empty], false⟩ := rfl
theorem r12 : E.row 12 = some ⟨.int .u64, 1, 8, [.int .u64 0], false⟩ := rfl
theorem r13 : E.row 13 = some ⟨.struct [(0, 9), (1, 12)], 2, 24, [.string ByteArray.empty, .int .u64 0], false⟩ := rfl
theorem r14 : E.row 14 = some ⟨.struct [(0, 9), (1, 12)], 2, 24, [.string ByteArray.empty, .int .u64 0], false⟩ := rfl
theorem r15 : E.row 15 = some ⟨.pointer 64, 1, 8, [.pointer none], false⟩ := rfl
theorem r16 : E.row 16 = some ⟨.pointer 67, 1, 8, [.pointer none], false⟩ := rfl
theorem r17 : E.row 17 = some ⟨.pointer 77, 1, 8, [.pointer none], false⟩ := rfl
theorem r18 : E.row 18 = some ⟨.struct [(0, 17)], 1, 8, [.pointer none], false⟩ := rfl
theorem r19 : E.row 19 = some ⟨.struct [(0, 17)], 1, 8, [.pointer none], false⟩ := rfl
theorem r21 : E.row 21 = some ⟨.int .i32, 1, 4, [.int .i32 0], false⟩ := rfl
theorem r22 : E.row 22 = some ⟨.slice 3, 1, 24, [.slice none 0 0], false⟩ := rfl
theorem r23 : E.row 23 = some ⟨.slice 25, 1, 24, [.slice none 0 0], false⟩ := rfl
theorem r24 : E.row 24 = some ⟨.other, 1, 8, [.nilFunc], false⟩ := rfl
theorem r25 : E.row 25 = some ⟨.slice 5, 1, 24, [.slice none 0 0], false⟩ := rfl
theorem r27 : E.row 27 = some ⟨.other, 1, 8, [.nilFunc], false⟩ := rfl
theorem r28 : E.row 28 = some ⟨.other, 1, 8, [.nilFunc], false⟩ := rfl
theorem r29 : E.row 29 = some ⟨.other, 1, 8, [.nilFunc], false⟩ := rfl
theorem r30 : E.row 30 = some ⟨.other, 1, 8, [.nilFunc], false⟩ := rfl
theorem r31 : E.row 31 = some ⟨.other, 1, 8, [.nilFunc], false⟩ := rfl
theorem r32 : E.row 32 = some ⟨.other, 1, 8, [.nilFunc], false⟩ := rfl
theorem r33 : E.row 33 = some ⟨.other, 1, 8, [.nilFunc], false⟩ := rfl
theorem r34 : E.row 34 = some ⟨.other, 1, 8, [.nilFunc], false⟩ := rfl
theorem r35 : E.row 35 = some ⟨.other, 1, 8, [.nilFunc], false⟩ := rfl
theorem r36 : E.row 36 = some ⟨.other, 1, 8, [.nilFunc], false⟩ := rfl
theorem r37 : E.row 37 = some ⟨.other, 1, 8, [.nilFunc], false⟩ := rfl
theorem r38 : E.row 38 = some ⟨.other, 1, 8, [.nilFunc], false⟩ := rfl
theorem r39 : E.row 39 = some ⟨.other, 1, 8, [.nilFunc], false⟩ := rfl
theorem r40 : E.row 40 = some ⟨.other, 1, 8, [.nilFunc], false⟩ := rfl
theorem r42 : E.row 42 = some ⟨.other, 1, 8, [.nilFunc], false⟩ := rfl
theorem r43 : E.row 43 = some ⟨.other, 1, 8, [.nilFunc], false⟩ := rfl
theorem r44 : E.row 44 = some ⟨.other, 1, 8, [.nilFunc], false⟩ := rfl
theorem r45 : E.row 45 = some ⟨.other, 1, 8, [.nilFunc], false⟩ := rfl
theorem r46 : E.row 46 = some ⟨.other, 1, 8, [.nilFunc], false⟩ := rfl
theorem r47 : E.row 47 = some ⟨.other, 1, 8, [.nilFunc], false⟩ := rfl
theorem r48 : E.row 48 = some ⟨.other, 1, 8, [.nilFunc], false⟩ := rfl
theorem r50 : E.row 50 = some ⟨.other, 1, 8, [.nilFunc], false⟩ := rfl
theorem r51 : E.row 51 = some ⟨.other, 1, 8, [.nilFunc], false⟩ := rfl
theorem r52 : E.row 52 = some ⟨.other, 1, 8, [.nilFunc], false⟩ := rfl
theorem r53 : E.row 53 = some ⟨.other, 1, 8, [.nilFunc], false⟩ := rfl
theorem r54 : E.row 54 = some ⟨.other, 1, 8, [.nilFunc], false⟩ := rfl
theorem r55 : E.row 55 = some ⟨.other, 1, 8, [.nilFunc], false⟩ := rfl
theorem r56 : E.row 56 = some ⟨.other, 1, 8, [.nilFunc], false⟩ := rfl
theorem r57 : E.row 57 = some ⟨.other, 1, 8, [.nilFunc], false⟩ := rfl
theorem r58 : E.row 58 = some ⟨.int .u64, 1, 8, [.int .u64 0], false⟩ := rfl
theorem r59 : E.row 59 = some ⟨.other, 1, 8, [.nilFunc], false⟩ := rfl
theorem r60 : E.row 60 = some ⟨.other, 1, 8, [.nilFunc], false⟩ := rfl
theorem r61 : E.row 61 = some ⟨.other, 1, 8, [.nilFunc], false⟩ := rfl
theorem r62 : E.row 62 = some ⟨.other, 1, 8, [.nilFunc], false⟩ := rfl
theorem r63 : E.row 63 = some ⟨.struct [(0, 17), (1, 17), (2, 17), (3, 9)], 4, 40, [.pointer none, .pointer none, .pointer none, .string ByteArray.empty], false⟩ := rfl
theorem r64 : E.row 64 = some ⟨.struct [(0, 17), (1, 17), (2, 17), (3, 9)], 4, 40, [.pointer none, .pointer none, .pointer none, .string ByteArray.empty], false⟩ := rfl
theorem r68 : E.row 68 = some ⟨.other, 1, 8, [.nilFunc], false⟩ := rfl
theorem r69 : E.row 69 = some ⟨.int .u32, 1, 4, [.int .u32 0], false⟩ := rfl
theorem r70 : E.row 70 = some ⟨.int .u8, 1, 1, [.int .u8 0], false⟩ := rfl
theorem r71 : E.row 71 = some ⟨.int .u8, 1, 1, [.int .u8 0], false⟩ := rfl
theorem r72 : E.row 72 = some ⟨.other, 1, 8, [.nilFunc], false⟩ := rfl
theorem r73 : E.row 73 = some ⟨.pointer 5, 1, 8, [.pointer none], false⟩ := rfl
theorem r74 : E.row 74 = some ⟨.int .i32, 1, 4, [.int .i32 0], false⟩ := rfl
theorem r75 : E.row 75 = some ⟨.int .i32, 1, 4, [.int .i32 0], false⟩ := rfl
theorem r76 : E.row 76 = some ⟨.struct [(0, 12), (1, 12), (2, 69), (3, 70), (4, 5), (5, 5), (6, 71), (7, 72), (8, 73), (9, 74), (10, 75)], 11, 48, [.int .u64 0, .int .u64 0, .int .u32 0, .int .u8 0, .int .u8 0, .int .u8 0, .int .u8 0, .nilFunc, .pointer none, .int .i32 0, .int .i32 0], false⟩ := rfl
theorem r77 : E.row 77 = some ⟨.struct [(0, 12), (1, 12), (2, 69), (3, 70), (4, 5), (5, 5), (6, 71), (7, 72), (8, 73), (9, 74), (10, 75)], 11, 48, [.int .u64 0, .int .u64 0, .int .u32 0, .int .u8 0, .int .u8 0, .int .u8 0, .int .u8 0, .nilFunc, .pointer none, .int .i32 0, .int .i32 0], false⟩ := rfl
theorem b2 : E.body 2 = some (Try.f2.body.getD .skip, Try.f2.results.toList) := rfl
theorem b3 : E.body 3 = some (Try.f3.body.getD .skip, Try.f3.results.toList) := rfl
theorem b4 : E.body 4 = some (Try.f4.body.getD .skip, Try.f4.results.toList) := rfl
theorem b5 : E.body 5 = some (Try.f5.body.getD .skip, Try.f5.results.toList) := rfl
theorem b6 : E.body 6 = some (Try.f6.body.getD .skip, Try.f6.results.toList) := rfl
theorem b7 : E.body 7 = some (Try.f7.body.getD .skip, Try.f7.results.toList) := rfl
theorem b8 : E.body 8 = some (Try.f8.body.getD .skip, Try.f8.results.toList) := rfl
theorem b9 : E.body 9 = some (Try.f9.body.getD .skip, Try.f9.results.toList) := rfl
theorem b10 : E.body 10 = some (Try.f10.body.getD .skip, Try.f10.results.toList) := rfl
theorem b11 : E.body 11 = some (Try.f11.body.getD .skip, Try.f11.results.toList) := rfl
theorem b12 : E.body 12 = some (Try.f12.body.getD .skip, Try.f12.results.toList) := rfl
theorem b13 : E.body 13 = some (Try.f13.body.getD .skip, Try.f13.results.toList) := rfl
theorem b14 : E.body 14 = some (Try.f14.body.getD .skip, Try.f14.results.toList) := rfl
theorem b15 : E.body 15 = some (Try.f15.body.getD .skip, Try.f15.results.toList) := rfl
theorem b16 : E.body 16 = some (Try.f16.body.getD .skip, Try.f16.results.toList) := rfl
theorem b17 : E.body 17 = some (Try.f17.body.getD .skip, Try.f17.results.toList) := rfl
theorem b18 : E.body 18 = some (Try.f18.body.getD .skip, Try.f18.results.toList) := rfl
theorem b19 : E.body 19 = some (Try.f19.body.getD .skip, Try.f19.results.toList) := rfl
theorem b20 : E.body 20 = some (Try.f20.body.getD .skip, Try.f20.results.toList) := rfl
theorem b21 : E.body 21 = some (Try.f21.body.getD .skip, Try.f21.results.toList) := rfl
theorem b22 : E.body 22 = some (Try.f22.body.getD .skip, Try.f22.results.toList) := rfl
theorem b23 : E.body 23 = some (Try.f23.body.getD .skip, Try.f23.results.toList) := rfl
theorem b24 : E.body 24 = some (Try.f24.body.getD .skip, Try.f24.results.toList) := rfl
theorem b25 : E.body 25 = some (Try.f25.body.getD .skip, Try.f25.results.toList) := rfl
theorem b26 : E.body 26 = some (Try.f26.body.getD .skip, Try.f26.results.toList) := rfl
theorem b27 : E.body 27 = some (Try.f27.body.getD .skip, Try.f27.results.toList) := rfl
theorem b28 : E.body 28 = some (Try.f28.body.getD .skip, Try.f28.results.toList) := rfl
theorem b29 : E.body 29 = some (Try.f29.body.getD .skip, Try.f29.results.toList) := rfl
theorem b30 : E.body 30 = some (Try.f30.body.getD .skip, Try.f30.results.toList) := rfl
theorem b31 : E.body 31 = some (Try.f31.body.getD .skip, Try.f31.results.toList) := rfl
theorem b32 : E.body 32 = some (Try.f32.body.getD .skip, Try.f32.results.toList) := rfl
theorem b33 : E.body 33 = some (Try.f33.body.getD .skip, Try.f33.results.toList) := rfl
theorem b34 : E.body 34 = some (Try.f34.body.getD .skip, Try.f34.results.toList) := rfl
theorem b35 : E.body 35 = some (Try.f35.body.getD .skip, Try.f35.results.toList) := rfl
theorem b36 : E.body 36 = some (Try.f36.body.getD .skip, Try.f36.results.toList) := rfl
theorem b37 : E.body 37 = some (Try.f37.body.getD .skip, Try.f37.results.toList) := rfl
theorem b38 : E.body 38 = some (Try.f38.body.getD .skip, Try.f38.results.toList) := rfl
theorem b39 : E.body 39 = some (Try.f39.body.getD .skip, Try.f39.results.toList) := rfl
theorem b40 : E.body 40 = some (Try.f40.body.getD .skip, Try.f40.results.toList) := rfl
theorem b41 : E.body 41 = some (Try.f41.body.getD .skip, Try.f41.results.toList) := rfl
theorem b42 : E.body 42 = some (Try.f42.body.getD .skip, Try.f42.results.toList) := rfl
theorem b43 : E.body 43 = some (Try.f43.body.getD .skip, Try.f43.results.toList) := rfl
theorem b44 : E.body 44 = some (Try.f44.body.getD .skip, Try.f44.results.toList) := rfl
theorem b45 : E.body 45 = some (Try.f45.body.getD .skip, Try.f45.results.toList) := rfl
theorem b46 : E.body 46 = some (Try.f46.body.getD .skip, Try.f46.results.toList) := rfl
theorem b47 : E.body 47 = some (Try.f47.body.getD .skip, Try.f47.results.toList) := rfl
theorem b48 : E.body 48 = some (Try.f48.body.getD .skip, Try.f48.results.toList) := rfl
theorem b49 : E.body 49 = some (Try.f49.body.getD .skip, Try.f49.results.toList) := rfl
theorem b50 : E.body 50 = some (Try.f50.body.getD .skip, Try.f50.results.toList) := rfl
theorem b51 : E.body 51 = some (Try.f51.body.getD .skip, Try.f51.results.toList) := rfl
theorem b52 : E.body 52 = some (Try.f52.body.getD .skip, Try.f52.results.toList) := rfl
theorem b53 : E.body 53 = some (Try.f53.body.getD .skip, Try.f53.results.toList) := rfl
theorem lv5_5 : E.live 5 5 = [0, 1, 5] := rfl
theorem lv6_6 : E.live 6 6 = [0, 2, 3, 4, 12, 13, 14] := rfl
theorem lv6_14 : E.live 6 14 = [0, 2, 4, 12, 13, 15, 16] := rfl
theorem lv6_17 : E.live 6 17 = [0, 2, 4, 12, 13, 15, 16, 17] := rfl
theorem lv7_3 : E.live 7 3 = [0, 3, 4] := rfl
theorem lv8_3 : E.live 8 3 = [0, 3, 4] := rfl
theorem lv10_4 : E.live 10 4 = [0, 1, 5] := rfl
theorem lv11_4 : E.live 11 4 = [0, 1, 5] := rfl
theorem lv12_4 : E.live 12 4 = [0, 1, 5] := rfl
theorem lv13_2 : E.live 13 2 = [0, 1, 5] := rfl
theorem lv14_2 : E.live 14 2 = [0, 1, 5] := rfl
theorem lv15_2 : E.live 15 2 = [0, 1, 5] := rfl
theorem lv16_2 : E.live 16 2 = [0, 1, 5] := rfl
theorem lv21_4 : E.live 21 4 = [0, 1, 7] := rfl
theorem lv21_9 : E.live 21 9 = [0, 1, 7, 8] := rfl
theorem lv23_5 : E.live 23 5 = [0, 1, 2, 8, 9] := rfl
theorem lv23_9 : E.live 23 9 = [0, 1, 2, 8, 9, 10, 11, 12] := rfl
theorem lv24_3 : E.live 24 3 = [0, 1, 5, 6] := rfl
theorem lv25_3 : E.live 25 3 = [0, 3, 4] := rfl
theorem lv29_3 : E.live 29 3 = [0, 1, 3, 9, 10, 18, 19, 20] := rfl
theorem lv29_8 : E.live 29 8 = [0, 1, 3, 9, 10, 30, 31] := rfl
theorem lv31_8 : E.live 31 8 = [0, 1, 8, 9, 10, 11, 12] := rfl
theorem lv31_13 : E.live 31 13 = [0, 1, 8, 10, 11, 13] := rfl
theorem lv31_17 : E.live 31 17 = [0, 1, 8, 10, 11, 13, 14, 15] := rfl
theorem lv33_5 : E.live 33 5 = [0, 7, 8, 9, 25, 26] := rfl
theorem lv35_3 : E.live 35 3 = [1, 5, 6, 7] := rfl
theorem lv38_2 : E.live 38 2 = [0, 1, 7, 8, 9] := rfl
theorem lv39_2 : E.live 39 2 = [0, 1, 7, 8] := rfl
theorem lv42_3 : E.live 42 3 = [1, 7, 17, 18, 19] := rfl
theorem lv45_3 : E.live 45 3 = [3, 6, 7] := rfl
theorem lv46_9 : E.live 46 9 = [0, 1, 5, 6] := rfl
theorem lv48_3 : E.live 48 3 = [0, 1, 5, 15, 16, 17] := rfl
theorem lv48_7 : E.live 48 7 = [0, 1, 5, 6, 7, 8, 9, 15, 16, 17, 22, 23, 24] := rfl
theorem lv49_5 : E.live 49 5 = [1, 2, 8, 17, 18, 19] := rfl
theorem lv50_2 : E.live 50 2 = [0, 1, 7, 8] := rfl
theorem lv51_3 : E.live 51 3 = [5, 6, 7] := rfl
theorem lv53_7 : E.live 53 7 = [0, 1, 5] := rfl
theorem ld2 : E.lend 2 = [] := rfl
theorem ld3 : E.lend 3 = [] := rfl
theorem ld4 : E.lend 4 = [] := rfl
theorem ld5 : E.lend 5 = [] := rfl
theorem ld6 : E.lend 6 = [] := rfl
theorem ld7 : E.lend 7 = [] := rfl
theorem ld8 : E.lend 8 = [] := rfl
theorem ld9 : E.lend 9 = [] := rfl
theorem ld10 : E.lend 10 = [] := rfl
theorem ld11 : E.lend 11 = [] := rfl
theorem ld12 : E.lend 12 = [] := rfl
theorem ld13 : E.lend 13 = [true, false] := rfl
theorem ld14 : E.lend 14 = [true, false] := rfl
theorem ld15 : E.lend 15 = [true, false] := rfl
theorem ld16 : E.lend 16 = [] := rfl
theorem ld17 : E.lend 17 = [] := rfl
theorem ld18 : E.lend 18 = [] := rfl
theorem ld19 : E.lend 19 = [] := rfl
theorem ld20 : E.lend 20 = [] := rfl
theorem ld21 : E.lend 21 = [] := rfl
theorem ld22 : E.lend 22 = [] := rfl
theorem ld23 : E.lend 23 = [] := rfl
theorem ld24 : E.lend 24 = [] := rfl
theorem ld25 : E.lend 25 = [] := rfl
theorem ld26 : E.lend 26 = [] := rfl
theorem ld27 : E.lend 27 = [] := rfl
theorem ld28 : E.lend 28 = [] := rfl
theorem ld29 : E.lend 29 = [] := rfl
theorem ld30 : E.lend 30 = [] := rfl
theorem ld31 : E.lend 31 = [] := rfl
theorem ld32 : E.lend 32 = [] := rfl
theorem ld33 : E.lend 33 = [] := rfl
theorem ld34 : E.lend 34 = [] := rfl
theorem ld35 : E.lend 35 = [] := rfl
theorem ld36 : E.lend 36 = [] := rfl
theorem ld37 : E.lend 37 = [] := rfl
theorem ld38 : E.lend 38 = [] := rfl
theorem ld39 : E.lend 39 = [] := rfl
theorem ld40 : E.lend 40 = [] := rfl
theorem ld41 : E.lend 41 = [] := rfl
theorem ld42 : E.lend 42 = [] := rfl
theorem ld43 : E.lend 43 = [] := rfl
theorem ld44 : E.lend 44 = [] := rfl
theorem ld45 : E.lend 45 = [] := rfl
theorem ld46 : E.lend 46 = [] := rfl
theorem ld47 : E.lend 47 = [] := rfl
theorem ld48 : E.lend 48 = [] := rfl
theorem ld49 : E.lend 49 = [] := rfl
theorem ld50 : E.lend 50 = [] := rfl
theorem ld51 : E.lend 51 = [] := rfl
theorem ld52 : E.lend 52 = [] := rfl
theorem ld53 : E.lend 53 = [] := rfl
theorem bf2 : E.boxf 2 = false := rfl
theorem bf3 : E.boxf 3 = false := rfl
theorem bf4 : E.boxf 4 = false := rfl
theorem bf5 : E.boxf 5 = false := rfl
theorem bf6 : E.boxf 6 = false := rfl
theorem bf7 : E.boxf 7 = false := rfl
theorem bf8 : E.boxf 8 = false := rfl
theorem bf9 : E.boxf 9 = false := rfl
theorem bf10 : E.boxf 10 = false := rfl
theorem bf11 : E.boxf 11 = false := rfl
theorem bf12 : E.boxf 12 = false := rfl
theorem bf13 : E.boxf 13 = false := rfl
theorem bf14 : E.boxf 14 = false := rfl
theorem bf15 : E.boxf 15 = false := rfl
theorem bf16 : E.boxf 16 = false := rfl
theorem bf17 : E.boxf 17 = false := rfl
theorem bf18 : E.boxf 18 = false := rfl
theorem bf19 : E.boxf 19 = false := rfl
theorem bf20 : E.boxf 20 = false := rfl
theorem bf21 : E.boxf 21 = false := rfl
theorem bf22 : E.boxf 22 = false := rfl
theorem bf23 : E.boxf 23 = false := rfl
theorem bf24 : E.boxf 24 = false := rfl
theorem bf25 : E.boxf 25 = false := rfl
theorem bf26 : E.boxf 26 = false := rfl
theorem bf27 : E.boxf 27 = false := rfl
theorem bf28 : E.boxf 28 = false := rfl
theorem bf29 : E.boxf 29 = false := rfl
theorem bf30 : E.boxf 30 = false := rfl
theorem bf31 : E.boxf 31 = false := rfl
theorem bf32 : E.boxf 32 = false := rfl
theorem bf33 : E.boxf 33 = false := rfl
theorem bf34 : E.boxf 34 = false := rfl
theorem bf35 : E.boxf 35 = false := rfl
theorem bf36 : E.boxf 36 = false := rfl
theorem bf37 : E.boxf 37 = false := rfl
theorem bf38 : E.boxf 38 = false := rfl
theorem bf39 : E.boxf 39 = false := rfl
theorem bf40 : E.boxf 40 = false := rfl
theorem bf41 : E.boxf 41 = false := rfl
theorem bf42 : E.boxf 42 = false := rfl
theorem bf43 : E.boxf 43 = false := rfl
theorem bf44 : E.boxf 44 = false := rfl
theorem bf45 : E.boxf 45 = false := rfl
theorem bf46 : E.boxf 46 = false := rfl
theorem bf47 : E.boxf 47 = false := rfl
theorem bf48 : E.boxf 48 = false := rfl
theorem bf49 : E.boxf 49 = false := rfl
theorem bf50 : E.boxf 50 = false := rfl
theorem bf51 : E.boxf 51 = false := rfl
theorem bf52 : E.boxf 52 = false := rfl
theorem bf53 : E.boxf 53 = false := rfl
theorem nf2 : E.notef 2 = false := rfl
theorem nf3 : E.notef 3 = false := rfl
theorem nf4 : E.notef 4 = false := rfl
theorem nf5 : E.notef 5 = false := rfl
theorem nf6 : E.notef 6 = false := rfl
theorem nf7 : E.notef 7 = false := rfl
theorem nf8 : E.notef 8 = false := rfl
theorem nf9 : E.notef 9 = false := rfl
theorem nf10 : E.notef 10 = false := rfl
theorem nf11 : E.notef 11 = false := rfl
theorem nf12 : E.notef 12 = false := rfl
theorem nf13 : E.notef 13 = false := rfl
theorem nf14 : E.notef 14 = false := rfl
theorem nf15 : E.notef 15 = false := rfl
theorem nf16 : E.notef 16 = false := rfl
theorem nf17 : E.notef 17 = false := rfl
theorem nf18 : E.notef 18 = false := rfl
theorem nf19 : E.notef 19 = false := rfl
theorem nf20 : E.notef 20 = false := rfl
theorem nf21 : E.notef 21 = false := rfl
theorem nf22 : E.notef 22 = false := rfl
theorem nf23 : E.notef 23 = false := rfl
theorem nf24 : E.notef 24 = false := rfl
theorem nf25 : E.notef 25 = false := rfl
theorem nf26 : E.notef 26 = false := rfl
theorem nf27 : E.notef 27 = false := rfl
theorem nf28 : E.notef 28 = false := rfl
theorem nf29 : E.notef 29 = false := rfl
theorem nf30 : E.notef 30 = false := rfl
theorem nf31 : E.notef 31 = false := rfl
theorem nf32 : E.notef 32 = false := rfl
theorem nf33 : E.notef 33 = false := rfl
theorem nf34 : E.notef 34 = false := rfl
theorem nf35 : E.notef 35 = false := rfl
theorem nf36 : E.notef 36 = false := rfl
theorem nf37 : E.notef 37 = false := rfl
theorem nf38 : E.notef 38 = false := rfl
theorem nf39 : E.notef 39 = false := rfl
theorem nf40 : E.notef 40 = false := rfl
theorem nf41 : E.notef 41 = false := rfl
theorem nf42 : E.notef 42 = false := rfl
theorem nf43 : E.notef 43 = false := rfl
theorem nf44 : E.notef 44 = false := rfl
theorem nf45 : E.notef 45 = false := rfl
theorem nf46 : E.notef 46 = false := rfl
theorem nf47 : E.notef 47 = false := rfl
theorem nf48 : E.notef 48 = false := rfl
theorem nf49 : E.notef 49 = false := rfl
theorem nf50 : E.notef 50 = false := rfl
theorem nf51 : E.notef 51 = false := rfl
theorem nf52 : E.notef 52 = false := rfl
theorem nf53 : E.notef 53 = false := rfl
theorem dp2 : E.deep 2 = false := rfl
theorem dp3 : E.deep 3 = false := rfl
theorem dp4 : E.deep 4 = false := rfl
theorem dp5 : E.deep 5 = false := rfl
theorem dp6 : E.deep 6 = false := rfl
theorem dp7 : E.deep 7 = false := rfl
theorem dp8 : E.deep 8 = false := rfl
theorem dp9 : E.deep 9 = false := rfl
theorem dp10 : E.deep 10 = false := rfl
theorem dp11 : E.deep 11 = false := rfl
theorem dp12 : E.deep 12 = false := rfl
theorem dp13 : E.deep 13 = false := rfl
theorem dp14 : E.deep 14 = false := rfl
theorem dp15 : E.deep 15 = false := rfl
theorem dp16 : E.deep 16 = false := rfl
theorem dp17 : E.deep 17 = false := rfl
theorem dp18 : E.deep 18 = false := rfl
theorem dp19 : E.deep 19 = false := rfl
theorem dp20 : E.deep 20 = false := rfl
theorem dp21 : E.deep 21 = false := rfl
theorem dp22 : E.deep 22 = false := rfl
theorem dp23 : E.deep 23 = false := rfl
theorem dp24 : E.deep 24 = false := rfl
theorem dp25 : E.deep 25 = false := rfl
theorem dp26 : E.deep 26 = false := rfl
theorem dp27 : E.deep 27 = false := rfl
theorem dp28 : E.deep 28 = false := rfl
theorem dp29 : E.deep 29 = false := rfl
theorem dp30 : E.deep 30 = false := rfl
theorem dp31 : E.deep 31 = false := rfl
theorem dp32 : E.deep 32 = false := rfl
theorem dp33 : E.deep 33 = false := rfl
theorem dp34 : E.deep 34 = false := rfl
theorem dp35 : E.deep 35 = false := rfl
theorem dp36 : E.deep 36 = false := rfl
theorem dp37 : E.deep 37 = false := rfl
theorem dp38 : E.deep 38 = false := rfl
theorem dp39 : E.deep 39 = false := rfl
theorem dp40 : E.deep 40 = false := rfl
theorem dp41 : E.deep 41 = false := rfl
theorem dp42 : E.deep 42 = false := rfl
theorem dp43 : E.deep 43 = false := rfl
theorem dp44 : E.deep 44 = false := rfl
theorem dp45 : E.deep 45 = false := rfl
theorem dp46 : E.deep 46 = false := rfl
theorem dp47 : E.deep 47 = false := rfl
theorem dp48 : E.deep 48 = false := rfl
theorem dp49 : E.deep 49 = false := rfl
theorem dp50 : E.deep 50 = false := rfl
theorem dp51 : E.deep 51 = false := rfl
theorem dp52 : E.deep 52 = false := rfl
theorem dp53 : E.deep 53 = false := rfl
theorem is2 : E.insf 2 = none := rfl
theorem is3 : E.insf 3 = none := rfl
theorem is4 : E.insf 4 = none := rfl
theorem is5 : E.insf 5 = none := rfl
theorem is6 : E.insf 6 = none := rfl
theorem is7 : E.insf 7 = none := rfl
theorem is8 : E.insf 8 = none := rfl
theorem is9 : E.insf 9 = none := rfl
theorem is10 : E.insf 10 = none := rfl
theorem is11 : E.insf 11 = none := rfl
theorem is12 : E.insf 12 = none := rfl
theorem is13 : E.insf 13 = none := rfl
theorem is14 : E.insf 14 = none := rfl
theorem is15 : E.insf 15 = none := rfl
theorem is16 : E.insf 16 = none := rfl
theorem is17 : E.insf 17 = none := rfl
theorem is18 : E.insf 18 = none := rfl
theorem is19 : E.insf 19 = none := rfl
theorem is20 : E.insf 20 = none := rfl
theorem is21 : E.insf 21 = none := rfl
theorem is22 : E.insf 22 = none := rfl
theorem is23 : E.insf 23 = none := rfl
theorem is24 : E.insf 24 = none := rfl
theorem is25 : E.insf 25 = none := rfl
theorem is26 : E.insf 26 = none := rfl
theorem is27 : E.insf 27 = none := rfl
theorem is28 : E.insf 28 = none := rfl
theorem is29 : E.insf 29 = none := rfl
theorem is30 : E.insf 30 = none := rfl
theorem is31 : E.insf 31 = none := rfl
theorem is32 : E.insf 32 = none := rfl
theorem is33 : E.insf 33 = none := rfl
theorem is34 : E.insf 34 = none := rfl
theorem is35 : E.insf 35 = none := rfl
theorem is36 : E.insf 36 = none := rfl
theorem is37 : E.insf 37 = none := rfl
theorem is38 : E.insf 38 = none := rfl
theorem is39 : E.insf 39 = none := rfl
theorem is40 : E.insf 40 = none := rfl
theorem is41 : E.insf 41 = none := rfl
theorem is42 : E.insf 42 = none := rfl
theorem is43 : E.insf 43 = none := rfl
theorem is44 : E.insf 44 = none := rfl
theorem is45 : E.insf 45 = none := rfl
theorem is46 : E.insf 46 = none := rfl
theorem is47 : E.insf 47 = none := rfl
theorem is48 : E.insf 48 = none := rfl
theorem is49 : E.insf 49 = none := rfl
theorem is50 : E.insf 50 = none := rfl
theorem is51 : E.insf 51 = none := rfl
theorem is52 : E.insf 52 = none := rfl
theorem is53 : E.insf 53 = none := rfl
theorem cf2 : E.cutf 2 = false := rfl
theorem cf3 : E.cutf 3 = false := rfl
theorem cf4 : E.cutf 4 = false := rfl
theorem cf5 : E.cutf 5 = false := rfl
theorem cf6 : E.cutf 6 = false := rfl
theorem cf7 : E.cutf 7 = false := rfl
theorem cf8 : E.cutf 8 = false := rfl
theorem cf9 : E.cutf 9 = false := rfl
theorem cf10 : E.cutf 10 = false := rfl
theorem cf11 : E.cutf 11 = false := rfl
theorem cf12 : E.cutf 12 = false := rfl
theorem cf13 : E.cutf 13 = false := rfl
theorem cf14 : E.cutf 14 = false := rfl
theorem cf15 : E.cutf 15 = false := rfl
theorem cf16 : E.cutf 16 = false := rfl
theorem cf17 : E.cutf 17 = false := rfl
theorem cf18 : E.cutf 18 = false := rfl
theorem cf19 : E.cutf 19 = false := rfl
theorem cf20 : E.cutf 20 = false := rfl
theorem cf21 : E.cutf 21 = false := rfl
theorem cf22 : E.cutf 22 = false := rfl
theorem cf23 : E.cutf 23 = false := rfl
theorem cf24 : E.cutf 24 = false := rfl
theorem cf25 : E.cutf 25 = false := rfl
theorem cf26 : E.cutf 26 = false := rfl
theorem cf27 : E.cutf 27 = false := rfl
theorem cf28 : E.cutf 28 = false := rfl
theorem cf29 : E.cutf 29 = false := rfl
theorem cf30 : E.cutf 30 = false := rfl
theorem cf31 : E.cutf 31 = false := rfl
theorem cf32 : E.cutf 32 = false := rfl
theorem cf33 : E.cutf 33 = false := rfl
theorem cf34 : E.cutf 34 = false := rfl
theorem cf35 : E.cutf 35 = false := rfl
theorem cf36 : E.cutf 36 = false := rfl
theorem cf37 : E.cutf 37 = false := rfl
theorem cf38 : E.cutf 38 = false := rfl
theorem cf39 : E.cutf 39 = false := rfl
theorem cf40 : E.cutf 40 = false := rfl
theorem cf41 : E.cutf 41 = false := rfl
theorem cf42 : E.cutf 42 = false := rfl
theorem cf43 : E.cutf 43 = false := rfl
theorem cf44 : E.cutf 44 = false := rfl
theorem cf45 : E.cutf 45 = false := rfl
theorem cf46 : E.cutf 46 = false := rfl
theorem cf47 : E.cutf 47 = false := rfl
theorem cf48 : E.cutf 48 = false := rfl
theorem cf49 : E.cutf 49 = false := rfl
theorem cf50 : E.cutf 50 = false := rfl
theorem cf51 : E.cutf 51 = false := rfl
theorem cf52 : E.cutf 52 = false := rfl
theorem cf53 : E.cutf 53 = false := rfl
theorem wk2 : E.wk 2 = none := rfl
theorem wk3 : E.wk 3 = none := rfl
theorem wk4 : E.wk 4 = none := rfl
theorem wk5 : E.wk 5 = none := rfl
theorem wk6 : E.wk 6 = none := rfl
theorem wk7 : E.wk 7 = none := rfl
theorem wk8 : E.wk 8 = none := rfl
theorem wk9 : E.wk 9 = none := rfl
theorem wk10 : E.wk 10 = none := rfl
theorem wk11 : E.wk 11 = none := rfl
theorem wk12 : E.wk 12 = none := rfl
theorem wk13 : E.wk 13 = none := rfl
theorem wk14 : E.wk 14 = none := rfl
theorem wk15 : E.wk 15 = none := rfl
theorem wk16 : E.wk 16 = none := rfl
theorem wk17 : E.wk 17 = none := rfl
theorem wk18 : E.wk 18 = none := rfl
theorem wk19 : E.wk 19 = none := rfl
theorem wk20 : E.wk 20 = none := rfl
theorem wk21 : E.wk 21 = none := rfl
theorem wk22 : E.wk 22 = none := rfl
theorem wk23 : E.wk 23 = none := rfl
theorem wk24 : E.wk 24 = none := rfl
theorem wk25 : E.wk 25 = none := rfl
theorem wk26 : E.wk 26 = none := rfl
theorem wk27 : E.wk 27 = none := rfl
theorem wk28 : E.wk 28 = none := rfl
theorem wk29 : E.wk 29 = none := rfl
theorem wk30 : E.wk 30 = none := rfl
theorem wk31 : E.wk 31 = none := rfl
theorem wk32 : E.wk 32 = none := rfl
theorem wk33 : E.wk 33 = none := rfl
theorem wk34 : E.wk 34 = none := rfl
theorem wk35 : E.wk 35 = none := rfl
theorem wk36 : E.wk 36 = none := rfl
theorem wk37 : E.wk 37 = none := rfl
theorem wk38 : E.wk 38 = none := rfl
theorem wk39 : E.wk 39 = none := rfl
theorem wk40 : E.wk 40 = none := rfl
theorem wk41 : E.wk 41 = none := rfl
theorem wk42 : E.wk 42 = none := rfl
theorem wk43 : E.wk 43 = none := rfl
theorem wk44 : E.wk 44 = some 1 := rfl
theorem wk45 : E.wk 45 = none := rfl
theorem wk46 : E.wk 46 = none := rfl
theorem wk47 : E.wk 47 = none := rfl
theorem wk48 : E.wk 48 = none := rfl
theorem wk49 : E.wk 49 = none := rfl
theorem wk50 : E.wk 50 = none := rfl
theorem wk51 : E.wk 51 = none := rfl
theorem wk52 : E.wk 52 = none := rfl
theorem wk53 : E.wk 53 = none := rfl

theorem rowsOK : rows.all (fun p => rowB Try.prog p.1 p.2) = true := by kernel_rfl
theorem EOK : E.OK Try.prog := fun t r h => rows_ok (E := E) rowsOK t r h

theorem fb2 : funcB Try.f2 = true := by kernel_rfl
theorem fb3 : funcB Try.f3 = true := by kernel_rfl
theorem fb4 : funcB Try.f4 = true := by kernel_rfl
theorem fb5 : funcB Try.f5 = true := by kernel_rfl
theorem fb6 : funcB Try.f6 = true := by kernel_rfl
theorem fb7 : funcB Try.f7 = true := by kernel_rfl
theorem fb8 : funcB Try.f8 = true := by kernel_rfl
theorem fb9 : funcB Try.f9 = true := by kernel_rfl
theorem fb10 : funcB Try.f10 = true := by kernel_rfl
theorem fb11 : funcB Try.f11 = true := by kernel_rfl
theorem fb12 : funcB Try.f12 = true := by kernel_rfl
theorem fb13 : funcB Try.f13 = true := by kernel_rfl
theorem fb14 : funcB Try.f14 = true := by kernel_rfl
theorem fb15 : funcB Try.f15 = true := by kernel_rfl
theorem fb16 : funcB Try.f16 = true := by kernel_rfl
theorem fb17 : funcB Try.f17 = true := by kernel_rfl
theorem fb18 : funcB Try.f18 = true := by kernel_rfl
theorem fb19 : funcB Try.f19 = true := by kernel_rfl
theorem fb20 : funcB Try.f20 = true := by kernel_rfl
theorem fb21 : funcB Try.f21 = true := by kernel_rfl
theorem fb22 : funcB Try.f22 = true := by kernel_rfl
theorem fb23 : funcB Try.f23 = true := by kernel_rfl
theorem fb24 : funcB Try.f24 = true := by kernel_rfl
theorem fb25 : funcB Try.f25 = true := by kernel_rfl
theorem fb26 : funcB Try.f26 = true := by kernel_rfl
theorem fb27 : funcB Try.f27 = true := by kernel_rfl
theorem fb28 : funcB Try.f28 = true := by kernel_rfl
theorem fb29 : funcB Try.f29 = true := by kernel_rfl
theorem fb30 : funcB Try.f30 = true := by kernel_rfl
theorem fb31 : funcB Try.f31 = true := by kernel_rfl
theorem fb32 : funcB Try.f32 = true := by kernel_rfl
theorem fb33 : funcB Try.f33 = true := by kernel_rfl
theorem fb34 : funcB Try.f34 = true := by kernel_rfl
theorem fb35 : funcB Try.f35 = true := by kernel_rfl
theorem fb36 : funcB Try.f36 = true := by kernel_rfl
theorem fb37 : funcB Try.f37 = true := by kernel_rfl
theorem fb38 : funcB Try.f38 = true := by kernel_rfl
theorem fb39 : funcB Try.f39 = true := by kernel_rfl
theorem fb40 : funcB Try.f40 = true := by kernel_rfl
theorem fb41 : funcB Try.f41 = true := by kernel_rfl
theorem fb42 : funcB Try.f42 = true := by kernel_rfl
theorem fb43 : funcB Try.f43 = true := by kernel_rfl
theorem fb44 : funcB Try.f44 = true := by kernel_rfl
theorem fb45 : funcB Try.f45 = true := by kernel_rfl
theorem fb46 : funcB Try.f46 = true := by kernel_rfl
theorem fb47 : funcB Try.f47 = true := by kernel_rfl
theorem fb48 : funcB Try.f48 = true := by kernel_rfl
theorem fb49 : funcB Try.f49 = true := by kernel_rfl
theorem fb50 : funcB Try.f50 = true := by kernel_rfl
theorem fb51 : funcB Try.f51 = true := by kernel_rfl
theorem fb52 : funcB Try.f52 = true := by kernel_rfl
theorem fb53 : funcB Try.f53 = true := by kernel_rfl
theorem EB : E.Bodies Try.prog := ⟨fun f c rs h => bodies_ok (l := funs) (by
  intro p hp
  simp only [funs, List.mem_cons, List.not_mem_nil, or_false] at hp
  rcases hp with rfl | rfl | rfl | rfl | rfl | rfl | rfl | rfl | rfl | rfl | rfl | rfl | rfl | rfl | rfl | rfl | rfl | rfl | rfl | rfl | rfl | rfl | rfl | rfl | rfl | rfl | rfl | rfl | rfl | rfl | rfl | rfl | rfl | rfl | rfl | rfl | rfl | rfl | rfl | rfl | rfl | rfl | rfl | rfl | rfl | rfl | rfl | rfl | rfl | rfl | rfl | rfl
  · exact ⟨Try.func2, fb2⟩
  · exact ⟨Try.func3, fb3⟩
  · exact ⟨Try.func4, fb4⟩
  · exact ⟨Try.func5, fb5⟩
  · exact ⟨Try.func6, fb6⟩
  · exact ⟨Try.func7, fb7⟩
  · exact ⟨Try.func8, fb8⟩
  · exact ⟨Try.func9, fb9⟩
  · exact ⟨Try.func10, fb10⟩
  · exact ⟨Try.func11, fb11⟩
  · exact ⟨Try.func12, fb12⟩
  · exact ⟨Try.func13, fb13⟩
  · exact ⟨Try.func14, fb14⟩
  · exact ⟨Try.func15, fb15⟩
  · exact ⟨Try.func16, fb16⟩
  · exact ⟨Try.func17, fb17⟩
  · exact ⟨Try.func18, fb18⟩
  · exact ⟨Try.func19, fb19⟩
  · exact ⟨Try.func20, fb20⟩
  · exact ⟨Try.func21, fb21⟩
  · exact ⟨Try.func22, fb22⟩
  · exact ⟨Try.func23, fb23⟩
  · exact ⟨Try.func24, fb24⟩
  · exact ⟨Try.func25, fb25⟩
  · exact ⟨Try.func26, fb26⟩
  · exact ⟨Try.func27, fb27⟩
  · exact ⟨Try.func28, fb28⟩
  · exact ⟨Try.func29, fb29⟩
  · exact ⟨Try.func30, fb30⟩
  · exact ⟨Try.func31, fb31⟩
  · exact ⟨Try.func32, fb32⟩
  · exact ⟨Try.func33, fb33⟩
  · exact ⟨Try.func34, fb34⟩
  · exact ⟨Try.func35, fb35⟩
  · exact ⟨Try.func36, fb36⟩
  · exact ⟨Try.func37, fb37⟩
  · exact ⟨Try.func38, fb38⟩
  · exact ⟨Try.func39, fb39⟩
  · exact ⟨Try.func40, fb40⟩
  · exact ⟨Try.func41, fb41⟩
  · exact ⟨Try.func42, fb42⟩
  · exact ⟨Try.func43, fb43⟩
  · exact ⟨Try.func44, fb44⟩
  · exact ⟨Try.func45, fb45⟩
  · exact ⟨Try.func46, fb46⟩
  · exact ⟨Try.func47, fb47⟩
  · exact ⟨Try.func48, fb48⟩
  · exact ⟨Try.func49, fb49⟩
  · exact ⟨Try.func50, fb50⟩
  · exact ⟨Try.func51, fb51⟩
  · exact ⟨Try.func52, fb52⟩
  · exact ⟨Try.func53, fb53⟩) f c rs h⟩
theorem EP : Try.prog.follows .mixedOrders = true := by kernel_rfl
theorem EH : OrcOK Try.prog E.hand := hand_none
def rr0 := And.intro @r1 (And.intro @r2 (And.intro @r3 (And.intro @r4 (And.intro @r5 (And.intro @r6 (And.intro @r7 (And.intro @r8 (And.intro @r9 (And.intro @r10 (And.intro @r11 (And.intro @r12 (And.intro @r13 (And.intro @r14 (And.intro @r15 (And.intro @r16 (And.intro @r17 (And.intro @r18 (And.intro @r19 (And.intro @r21 (And.intro @r22 (And.intro @r23 (And.intro @r24 (And.intro @r25 (And.intro @r27 (And.intro @r28 (And.intro @r29 (And.intro @r30 (And.intro @r31 (And.intro @r32 (And.intro @r33 (And.intro @r34 (And.intro @r35 (And.intro @r36 (And.intro @r37 (And.intro @r38 (And.intro @r39 (And.intro @r40 (And.intro @r42 (And.intro @r43 (And.intro @r44 (And.intro @r45 (And.intro @r46 (And.intro @r47 (And.intro @r48 (And.intro @r50 (And.intro @r51 (And.intro @r52 (And.intro @r53 (And.intro @r54 (And.intro @r55 (And.intro @r56 (And.intro @r57 (And.intro @r58 (And.intro @r59 (And.intro @r60 (And.intro @r61 (And.intro @r62 (And.intro @r63 (And.intro @r64 (And.intro @r68 (And.intro @r69 (And.intro @r70 (And.intro @r71 (And.intro @r72 (And.intro @r73 (And.intro @r74 (And.intro @r75 (And.intro @r76 (And.intro @r77 (And.intro @lv5_5 (And.intro @lv6_6 (And.intro @lv6_14 (And.intro @lv6_17 (And.intro @lv7_3 (And.intro @lv8_3 (And.intro @lv10_4 (And.intro @lv11_4 (And.intro @lv12_4 (And.intro @lv13_2 (And.intro @lv14_2 (And.intro @lv15_2 (And.intro @lv16_2 (And.intro @lv21_4 (And.intro @lv21_9 (And.intro @lv23_5 (And.intro @lv23_9 (And.intro @lv24_3 (And.intro @lv25_3 (And.intro @lv29_3 (And.intro @lv29_8 (And.intro @lv31_8 (And.intro @lv31_13 (And.intro @lv31_17 (And.intro @lv33_5 (And.intro @lv35_3 (And.intro @lv38_2 (And.intro @lv39_2 (And.intro @lv42_3 (And.intro @lv45_3 (And.intro @lv46_9 (And.intro @lv48_3 (And.intro @lv48_7 (And.intro @lv49_5 (And.intro @lv50_2 (And.intro @lv51_3 (And.intro @lv53_7 (And.intro @ld2 (And.intro @ld3 (And.intro @ld4 (And.intro @ld5 (And.intro @ld6 (And.intro @ld7 (And.intro @ld8 (And.intro @ld9 (And.intro @ld10 (And.intro @ld11 (And.intro @ld12 (And.intro @ld13 (And.intro @ld14 (And.intro @ld15 (And.intro @ld16 (And.intro @ld17 (And.intro @ld18 (And.intro @ld19 (And.intro @ld20 (And.intro @ld21 (And.intro @ld22 (And.intro @ld23 (And.intro @ld24 (And.intro @ld25 (And.intro @ld26 (And.intro @ld27 (And.intro @ld28 (And.intro @ld29 (And.intro @ld30 (And.intro @ld31 (And.intro @ld32 (And.intro @ld33 (And.intro @ld34 (And.intro @ld35 (And.intro @ld36 (And.intro @ld37 (And.intro @ld38 (And.intro @ld39 (And.intro @ld40 (And.intro @ld41 (And.intro @ld42 (And.intro @ld43 (@ld44)))))))))))))))))))))))))))))))))))))))))))))))))))))))))))))))))))))))))))))))))))))))))))))))))))))))))))))))))))))))))))))))))))))))))))))))))))))
def rr1 := And.intro @ld45 (And.intro @ld46 (And.intro @ld47 (And.intro @ld48 (And.intro @ld49 (And.intro @ld50 (And.intro @ld51 (And.intro @ld52 (And.intro @ld53 (And.intro @wk2 (And.intro @wk3 (And.intro @wk4 (And.intro @wk5 (And.intro @wk6 (And.intro @wk7 (And.intro @wk8 (And.intro @wk9 (And.intro @wk10 (And.intro @wk11 (And.intro @wk12 (And.intro @wk13 (And.intro @wk14 (And.intro @wk15 (And.intro @wk16 (And.intro @wk17 (And.intro @wk18 (And.intro @wk19 (And.intro @wk20 (And.intro @wk21 (And.intro @wk22 (And.intro @wk23 (And.intro @wk24 (And.intro @wk25 (And.intro @wk26 (And.intro @wk27 (And.intro @wk28 (And.intro @wk29 (And.intro @wk30 (And.intro @wk31 (And.intro @wk32 (And.intro @wk33 (And.intro @wk34 (And.intro @wk35 (And.intro @wk36 (And.intro @wk37 (And.intro @wk38 (And.intro @wk39 (And.intro @wk40 (And.intro @wk41 (And.intro @wk42 (And.intro @wk43 (And.intro @wk44 (And.intro @wk45 (And.intro @wk46 (And.intro @wk47 (And.intro @wk48 (And.intro @wk49 (And.intro @wk50 (And.intro @wk51 (And.intro @wk52 (And.intro @wk53 (And.intro @bf2 (And.intro @bf3 (And.intro @bf4 (And.intro @bf5 (And.intro @bf6 (And.intro @bf7 (And.intro @bf8 (And.intro @bf9 (And.intro @bf10 (And.intro @bf11 (And.intro @bf12 (And.intro @bf13 (And.intro @bf14 (And.intro @bf15 (And.intro @bf16 (And.intro @bf17 (And.intro @bf18 (And.intro @bf19 (And.intro @bf20 (And.intro @bf21 (And.intro @bf22 (And.intro @bf23 (And.intro @bf24 (And.intro @bf25 (And.intro @bf26 (And.intro @bf27 (And.intro @bf28 (And.intro @bf29 (And.intro @bf30 (And.intro @bf31 (And.intro @bf32 (And.intro @bf33 (And.intro @bf34 (And.intro @bf35 (And.intro @bf36 (And.intro @bf37 (And.intro @bf38 (And.intro @bf39 (And.intro @bf40 (And.intro @bf41 (And.intro @bf42 (And.intro @bf43 (And.intro @bf44 (And.intro @bf45 (And.intro @bf46 (And.intro @bf47 (And.intro @bf48 (And.intro @bf49 (And.intro @bf50 (And.intro @bf51 (And.intro @bf52 (And.intro @bf53 (And.intro @nf2 (And.intro @nf3 (And.intro @nf4 (And.intro @nf5 (And.intro @nf6 (And.intro @nf7 (And.intro @nf8 (And.intro @nf9 (And.intro @nf10 (And.intro @nf11 (And.intro @nf12 (And.intro @nf13 (And.intro @nf14 (And.intro @nf15 (And.intro @nf16 (And.intro @nf17 (And.intro @nf18 (And.intro @nf19 (And.intro @nf20 (And.intro @nf21 (And.intro @nf22 (And.intro @nf23 (And.intro @nf24 (And.intro @nf25 (And.intro @nf26 (And.intro @nf27 (And.intro @nf28 (And.intro @nf29 (And.intro @nf30 (And.intro @nf31 (And.intro @nf32 (And.intro @nf33 (And.intro @nf34 (And.intro @nf35 (And.intro @nf36 (And.intro @nf37 (@nf38)))))))))))))))))))))))))))))))))))))))))))))))))))))))))))))))))))))))))))))))))))))))))))))))))))))))))))))))))))))))))))))))))))))))))))))))))))))
def rr2 := And.intro @nf39 (And.intro @nf40 (And.intro @nf41 (And.intro @nf42 (And.intro @nf43 (And.intro @nf44 (And.intro @nf45 (And.intro @nf46 (And.intro @nf47 (And.intro @nf48 (And.intro @nf49 (And.intro @nf50 (And.intro @nf51 (And.intro @nf52 (And.intro @nf53 (And.intro @dp2 (And.intro @dp3 (And.intro @dp4 (And.intro @dp5 (And.intro @dp6 (And.intro @dp7 (And.intro @dp8 (And.intro @dp9 (And.intro @dp10 (And.intro @dp11 (And.intro @dp12 (And.intro @dp13 (And.intro @dp14 (And.intro @dp15 (And.intro @dp16 (And.intro @dp17 (And.intro @dp18 (And.intro @dp19 (And.intro @dp20 (And.intro @dp21 (And.intro @dp22 (And.intro @dp23 (And.intro @dp24 (And.intro @dp25 (And.intro @dp26 (And.intro @dp27 (And.intro @dp28 (And.intro @dp29 (And.intro @dp30 (And.intro @dp31 (And.intro @dp32 (And.intro @dp33 (And.intro @dp34 (And.intro @dp35 (And.intro @dp36 (And.intro @dp37 (And.intro @dp38 (And.intro @dp39 (And.intro @dp40 (And.intro @dp41 (And.intro @dp42 (And.intro @dp43 (And.intro @dp44 (And.intro @dp45 (And.intro @dp46 (And.intro @dp47 (And.intro @dp48 (And.intro @dp49 (And.intro @dp50 (And.intro @dp51 (And.intro @dp52 (And.intro @dp53 (And.intro @is2 (And.intro @is3 (And.intro @is4 (And.intro @is5 (And.intro @is6 (And.intro @is7 (And.intro @is8 (And.intro @is9 (And.intro @is10 (And.intro @is11 (And.intro @is12 (And.intro @is13 (And.intro @is14 (And.intro @is15 (And.intro @is16 (And.intro @is17 (And.intro @is18 (And.intro @is19 (And.intro @is20 (And.intro @is21 (And.intro @is22 (And.intro @is23 (And.intro @is24 (And.intro @is25 (And.intro @is26 (And.intro @is27 (And.intro @is28 (And.intro @is29 (And.intro @is30 (And.intro @is31 (And.intro @is32 (And.intro @is33 (And.intro @is34 (And.intro @is35 (And.intro @is36 (And.intro @is37 (And.intro @is38 (And.intro @is39 (And.intro @is40 (And.intro @is41 (And.intro @is42 (And.intro @is43 (And.intro @is44 (And.intro @is45 (And.intro @is46 (And.intro @is47 (And.intro @is48 (And.intro @is49 (And.intro @is50 (And.intro @is51 (And.intro @is52 (And.intro @is53 (And.intro @cf2 (And.intro @cf3 (And.intro @cf4 (And.intro @cf5 (And.intro @cf6 (And.intro @cf7 (And.intro @cf8 (And.intro @cf9 (And.intro @cf10 (And.intro @cf11 (And.intro @cf12 (And.intro @cf13 (And.intro @cf14 (And.intro @cf15 (And.intro @cf16 (And.intro @cf17 (And.intro @cf18 (And.intro @cf19 (And.intro @cf20 (And.intro @cf21 (And.intro @cf22 (And.intro @cf23 (And.intro @cf24 (And.intro @cf25 (And.intro @cf26 (And.intro @cf27 (And.intro @cf28 (And.intro @cf29 (And.intro @cf30 (And.intro @cf31 (@cf32)))))))))))))))))))))))))))))))))))))))))))))))))))))))))))))))))))))))))))))))))))))))))))))))))))))))))))))))))))))))))))))))))))))))))))))))))))))
def rr3 := And.intro @cf33 (And.intro @cf34 (And.intro @cf35 (And.intro @cf36 (And.intro @cf37 (And.intro @cf38 (And.intro @cf39 (And.intro @cf40 (And.intro @cf41 (And.intro @cf42 (And.intro @cf43 (And.intro @cf44 (And.intro @cf45 (And.intro @cf46 (And.intro @cf47 (And.intro @cf48 (And.intro @cf49 (And.intro @cf50 (And.intro @cf51 (And.intro @cf52 (@cf53))))))))))))))))))))
def rr := And.intro @rr0 (And.intro @rr1 (And.intro @rr2 (@rr3)))
end Go.Proofs.Ythgopooldcheeaa.VH.S
end

section
namespace Go.Proofs.Ythgopooldcheeaa.VH.S
open Go.Proofs
set_option maxRecDepth 100000
set_option maxHeartbeats 4000000
set_option linter.unusedSimpArgs false

theorem e30 (d : Nat) (x lo hi : Int) : evFun E (d+1) 30 [vi x, vi lo, vi hi] [] = some (vb (decide (x ≥ lo) && decide (x ≤ hi)), []) := by
  refine evFun_body b30 ?_
  simp only [vv, qa, qa0, clash, meets, execOp, evBox, opnd, qa1, bin, convHM, qa2, qa3, qa4, qa5, qa6, qa7, zOK, qa8, qa9, borL, isSl, qb, qb0, qb1, qb2, qb3, qb4, cellsOf, TD.agg, qb5, qb6, qb7, qb8, qb9, qc, qc0, qc1, setAt, qc2, qc3, qc4, getR, qc5, qc6, qc7, qc8, qc9, Array.toList, List.map, Option.isSome_none, bne_self_eq_false, reduceIte, reduceCtorEq, Nat.reduceEqDiff, Nat.reduceAdd, Nat.reduceMul, Nat.reduceSub, Nat.reduceBEq, Nat.reduceLeDiff, Int.reduceEq, Int.reduceLT, Int.reduceLE, Int.reduceGE, Int.reduceGT, Int.reduceBEq, Int.reduceBNe, Int.reduceToNat, Int.reduceNeg, Int.reduceSub, Int.reduceAdd, Int.reduceMul, rr, Try.f30]
  refine opG_elim (fun h => ?_) (fun h => ?_) <;> simp only [vv, qa, qa0, clash, meets, execOp, evBox, opnd, qa1, bin, convHM, qa2, qa3, qa4, qa5, qa6, qa7, zOK, qa8, qa9, borL, isSl, qb, qb0, qb1, qb2, qb3, qb4, cellsOf, TD.agg, qb5, qb6, qb7, qb8, qb9, qc, qc0, qc1, setAt, qc2, qc3, qc4, getR, qc5, qc6, qc7, qc8, qc9, Array.toList, List.map, Option.isSome_none, bne_self_eq_false, reduceIte, reduceCtorEq, Nat.reduceEqDiff, Nat.reduceAdd, Nat.reduceMul, Nat.reduceSub, Nat.reduceBEq, Nat.reduceLeDiff, Int.reduceEq, Int.reduceLT, Int.reduceLE, Int.reduceGE, Int.reduceGT, Int.reduceBEq, Int.reduceBNe, Int.reduceToNat, Int.reduceNeg, Int.reduceSub, Int.reduceAdd, Int.reduceMul, rr, h] <;> simp only [vv, ff, qa, qa0, clash, meets, execOp, evBox, opnd, qa1, bin, convHM, qa2, qa3, qa4, qa5, qa6, qa7, zOK, qa8, qa9, borL, isSl, qb, qb0, qb1, qb2, qb3, qb4, cellsOf, TD.agg, qb5, qb6, qb7, qb8, qb9, qc, qc0, qc1, setAt, qc2, qc3, qc4, getR, qc5, qc6, qc7, qc8, qc9, Array.toList, List.map, Option.isSome_none, bne_self_eq_false, reduceIte, reduceCtorEq, Nat.reduceEqDiff, Nat.reduceAdd, Nat.reduceMul, Nat.reduceSub, Nat.reduceBEq, Nat.reduceLeDiff, Int.reduceEq, Int.reduceLT, Int.reduceLE, Int.reduceGE, Int.reduceGT, Int.reduceBEq, Int.reduceBNe, Int.reduceToNat, Int.reduceNeg, Int.reduceSub, Int.reduceAdd, Int.reduceMul, finish, qf0, resOf, resa, qf1, qf2, qf3, keep, qf4, qf5, qf6, qe9, qf, rr]
theorem e32 (d : Nat) (x lo hi : Int) : evFun E (d+1) 32 [vi x, vi lo, vi hi] [] = some (vb (decide (x ≥ lo) && decide (x ≤ hi)), []) := by
  refine evFun_body b32 ?_
  simp only [vv, qa, qa0, clash, meets, execOp, evBox, opnd, qa1, bin, convHM, qa2, qa3, qa4, qa5, qa6, qa7, zOK, qa8, qa9, borL, isSl, qb, qb0, qb1, qb2, qb3, qb4, cellsOf, TD.agg, qb5, qb6, qb7, qb8, qb9, qc, qc0, qc1, setAt, qc2, qc3, qc4, getR, qc5, qc6, qc7, qc8, qc9, Array.toList, List.map, Option.isSome_none, bne_self_eq_false, reduceIte, reduceCtorEq, Nat.reduceEqDiff, Nat.reduceAdd, Nat.reduceMul, Nat.reduceSub, Nat.reduceBEq, Nat.reduceLeDiff, Int.reduceEq, Int.reduceLT, Int.reduceLE, Int.reduceGE, Int.reduceGT, Int.reduceBEq, Int.reduceBNe, Int.reduceToNat, Int.reduceNeg, Int.reduceSub, Int.reduceAdd, Int.reduceMul, rr, Try.f32]
  refine opG_elim (fun h => ?_) (fun h => ?_) <;> simp only [vv, qa, qa0, clash, meets, execOp, evBox, opnd, qa1, bin, convHM, qa2, qa3, qa4, qa5, qa6, qa7, zOK, qa8, qa9, borL, isSl, qb, qb0, qb1, qb2, qb3, qb4, cellsOf, TD.agg, qb5, qb6, qb7, qb8, qb9, qc, qc0, qc1, setAt, qc2, qc3, qc4, getR, qc5, qc6, qc7, qc8, qc9, Array.toList, List.map, Option.isSome_none, bne_self_eq_false, reduceIte, reduceCtorEq, Nat.reduceEqDiff, Nat.reduceAdd, Nat.reduceMul, Nat.reduceSub, Nat.reduceBEq, Nat.reduceLeDiff, Int.reduceEq, Int.reduceLT, Int.reduceLE, Int.reduceGE, Int.reduceGT, Int.reduceBEq, Int.reduceBNe, Int.reduceToNat, Int.reduceNeg, Int.reduceSub, Int.reduceAdd, Int.reduceMul, rr, h] <;> simp only [vv, ff, qa, qa0, clash, meets, execOp, evBox, opnd, qa1, bin, convHM, qa2, qa3, qa4, qa5, qa6, qa7, zOK, qa8, qa9, borL, isSl, qb, qb0, qb1, qb2, qb3, qb4, cellsOf, TD.agg, qb5, qb6, qb7, qb8, qb9, qc, qc0, qc1, setAt, qc2, qc3, qc4, getR, qc5, qc6, qc7, qc8, qc9, Array.toList, List.map, Option.isSome_none, bne_self_eq_false, reduceIte, reduceCtorEq, Nat.reduceEqDiff, Nat.reduceAdd, Nat.reduceMul, Nat.reduceSub, Nat.reduceBEq, Nat.reduceLeDiff, Int.reduceEq, Int.reduceLT, Int.reduceLE, Int.reduceGE, Int.reduceGT, Int.reduceBEq, Int.reduceBNe, Int.reduceToNat, Int.reduceNeg, Int.reduceSub, Int.reduceAdd, Int.reduceMul, finish, qf0, resOf, resa, qf1, qf2, qf3, keep, qf4, qf5, qf6, qe9, qf, rr]
theorem e25 (d : Nat) (tg : Tg) (cap : Option Nat) (l : List Int) (hl : l.length ≤ 2 ^ 39) : evFun E (d+1) 25 [.sl tg 1 l.length cap (l.map (iv .u8))] [] = some (.ref 0 [] 1 0 l.length (some l.length), [some (l.map (iv .u8))]) := by
  refine evFun_body b25 ?_
  simp only [vv, qa, qa0, clash, meets, execOp, evBox, opnd, qa1, bin, convHM, qa2, qa3, qa4, qa5, qa6, qa7, zOK, qa8, qa9, borL, isSl, qb, qb0, qb1, qb2, qb3, qb4, cellsOf, TD.agg, qb5, qb6, qb7, qb8, qb9, qc, qc0, qc1, setAt, qc2, qc3, qc4, getR, qc5, qc6, qc7, qc8, qc9, Array.toList, List.map, Option.isSome_none, bne_self_eq_false, reduceIte, reduceCtorEq, Nat.reduceEqDiff, Nat.reduceAdd, Nat.reduceMul, Nat.reduceSub, Nat.reduceBEq, Nat.reduceLeDiff, Int.reduceEq, Int.reduceLT, Int.reduceLE, Int.reduceGE, Int.reduceGT, Int.reduceBEq, Int.reduceBNe, Int.reduceToNat, Int.reduceNeg, Int.reduceSub, Int.reduceAdd, Int.reduceMul, rr, Try.f25, lim_le hl]
  refine loop_go (fun i => {T := tp [(0, .sl tg 1 l.length cap (l.map (iv .u8))), (3, .ref 0 [] 1 0 l.length (some l.length)), (4, vi i)], H := hp [some (part .u8 l i)], nx := 1}) l.length ?_ (lt_LF hl) (fun i hi Kn hK => ?_) (fun Kn => ?_)
  · simp only [vv, ff, norm, Array.toList, List.map, Option.isSome_none, bne_self_eq_false, reduceIte, reduceCtorEq, Nat.reduceEqDiff, Nat.reduceAdd, Nat.reduceMul, Nat.reduceSub, Nat.reduceBEq, Nat.reduceLeDiff, Int.reduceEq, Int.reduceLT, Int.reduceLE, Int.reduceGE, Int.reduceGT, Int.reduceBEq, Int.reduceBNe, Int.reduceToNat, Int.reduceNeg, Int.reduceSub, Int.reduceAdd, Int.reduceMul, finish, qf0, resOf, resa, qf1, qf2, qf3, keep, qf4, qf5, qf6, qe9, qf, zeros_one, part_zero, Int.natCast_zero]
  · simp only [vv, qa, qa0, clash, meets, execOp, evBox, opnd, qa1, bin, convHM, qa2, qa3, qa4, qa5, qa6, qa7, zOK, qa8, qa9, borL, isSl, qb, qb0, qb1, qb2, qb3, qb4, cellsOf, TD.agg, qb5, qb6, qb7, qb8, qb9, qc, qc0, qc1, setAt, qc2, qc3, qc4, getR, qc5, qc6, qc7, qc8, qc9, Array.toList, List.map, Option.isSome_none, bne_self_eq_false, reduceIte, reduceCtorEq, Nat.reduceEqDiff, Nat.reduceAdd, Nat.reduceMul, Nat.reduceSub, Nat.reduceBEq, Nat.reduceLeDiff, Int.reduceEq, Int.reduceLT, Int.reduceLE, Int.reduceGE, Int.reduceGT, Int.reduceBEq, Int.reduceBNe, Int.reduceToNat, Int.reduceNeg, Int.reduceSub, Int.reduceAdd, Int.reduceMul, rr, lt_ok hi, succ_le hi, map_get hi, part_len, part_set _ _ hi, wrap_succ hi hl]
    refine hK _ ?_
    simp only [vv, ff, norm, Array.toList, List.map, Option.isSome_none, bne_self_eq_false, reduceIte, reduceCtorEq, Nat.reduceEqDiff, Nat.reduceAdd, Nat.reduceMul, Nat.reduceSub, Nat.reduceBEq, Nat.reduceLeDiff, Int.reduceEq, Int.reduceLT, Int.reduceLE, Int.reduceGE, Int.reduceGT, Int.reduceBEq, Int.reduceBNe, Int.reduceToNat, Int.reduceNeg, Int.reduceSub, Int.reduceAdd, Int.reduceMul, finish, qf0, resOf, resa, qf1, qf2, qf3, keep, qf4, qf5, qf6, qe9, qf]
  · simp only [vv, qa, qa0, clash, meets, execOp, evBox, opnd, qa1, bin, convHM, qa2, qa3, qa4, qa5, qa6, qa7, zOK, qa8, qa9, borL, isSl, qb, qb0, qb1, qb2, qb3, qb4, cellsOf, TD.agg, qb5, qb6, qb7, qb8, qb9, qc, qc0, qc1, setAt, qc2, qc3, qc4, getR, qc5, qc6, qc7, qc8, qc9, Array.toList, List.map, Option.isSome_none, bne_self_eq_false, reduceIte, reduceCtorEq, Nat.reduceEqDiff, Nat.reduceAdd, Nat.reduceMul, Nat.reduceSub, Nat.reduceBEq, Nat.reduceLeDiff, Int.reduceEq, Int.reduceLT, Int.reduceLE, Int.reduceGE, Int.reduceGT, Int.reduceBEq, Int.reduceBNe, Int.reduceToNat, Int.reduceNeg, Int.reduceSub, Int.reduceAdd, Int.reduceMul, rr, lt_no]
    simp only [vv, ff, qa, qa0, clash, meets, execOp, evBox, opnd, qa1, bin, convHM, qa2, qa3, qa4, qa5, qa6, qa7, zOK, qa8, qa9, borL, isSl, qb, qb0, qb1, qb2, qb3, qb4, cellsOf, TD.agg, qb5, qb6, qb7, qb8, qb9, qc, qc0, qc1, setAt, qc2, qc3, qc4, getR, qc5, qc6, qc7, qc8, qc9, Array.toList, List.map, Option.isSome_none, bne_self_eq_false, reduceIte, reduceCtorEq, Nat.reduceEqDiff, Nat.reduceAdd, Nat.reduceMul, Nat.reduceSub, Nat.reduceBEq, Nat.reduceLeDiff, Int.reduceEq, Int.reduceLT, Int.reduceLE, Int.reduceGE, Int.reduceGT, Int.reduceBEq, Int.reduceBNe, Int.reduceToNat, Int.reduceNeg, Int.reduceSub, Int.reduceAdd, Int.reduceMul, finish, qf0, resOf, resa, qf1, qf2, qf3, keep, qf4, qf5, qf6, qe9, qf, rr, part_full]
theorem e7 (d : Nat) (tg : Tg) (cap : Option Nat) (l : List Int) (hl : l.length ≤ 2 ^ 39) : evFun E (d+1) 7 [.sl tg 1 l.length cap (l.map vi)] [] = some (.ref 0 [] 1 0 l.length (some l.length), [some (l.map vi)]) := by
  refine evFun_body b7 ?_
  simp only [vv, qa, qa0, clash, meets, execOp, evBox, opnd, qa1, bin, convHM, qa2, qa3, qa4, qa5, qa6, qa7, zOK, qa8, qa9, borL, isSl, qb, qb0, qb1, qb2, qb3, qb4, cellsOf, TD.agg, qb5, qb6, qb7, qb8, qb9, qc, qc0, qc1, setAt, qc2, qc3, qc4, getR, qc5, qc6, qc7, qc8, qc9, Array.toList, List.map, Option.isSome_none, bne_self_eq_false, reduceIte, reduceCtorEq, Nat.reduceEqDiff, Nat.reduceAdd, Nat.reduceMul, Nat.reduceSub, Nat.reduceBEq, Nat.reduceLeDiff, Int.reduceEq, Int.reduceLT, Int.reduceLE, Int.reduceGE, Int.reduceGT, Int.reduceBEq, Int.reduceBNe, Int.reduceToNat, Int.reduceNeg, Int.reduceSub, Int.reduceAdd, Int.reduceMul, rr, Try.f7, lim_le hl]
  refine loop_go (fun i => {T := tp [(0, .sl tg 1 l.length cap (l.map (iv .i64))), (3, .ref 0 [] 1 0 l.length (some l.length)), (4, vi i)], H := hp [some (part .i64 l i)], nx := 1}) l.length ?_ (lt_LF hl) (fun i hi Kn hK => ?_) (fun Kn => ?_)
  · simp only [vv, ff, norm, Array.toList, List.map, Option.isSome_none, bne_self_eq_false, reduceIte, reduceCtorEq, Nat.reduceEqDiff, Nat.reduceAdd, Nat.reduceMul, Nat.reduceSub, Nat.reduceBEq, Nat.reduceLeDiff, Int.reduceEq, Int.reduceLT, Int.reduceLE, Int.reduceGE, Int.reduceGT, Int.reduceBEq, Int.reduceBNe, Int.reduceToNat, Int.reduceNeg, Int.reduceSub, Int.reduceAdd, Int.reduceMul, finish, qf0, resOf, resa, qf1, qf2, qf3, keep, qf4, qf5, qf6, qe9, qf, zeros_one, part_zero, Int.natCast_zero]
  · simp only [vv, qa, qa0, clash, meets, execOp, evBox, opnd, qa1, bin, convHM, qa2, qa3, qa4, qa5, qa6, qa7, zOK, qa8, qa9, borL, isSl, qb, qb0, qb1, qb2, qb3, qb4, cellsOf, TD.agg, qb5, qb6, qb7, qb8, qb9, qc, qc0, qc1, setAt, qc2, qc3, qc4, getR, qc5, qc6, qc7, qc8, qc9, Array.toList, List.map, Option.isSome_none, bne_self_eq_false, reduceIte, reduceCtorEq, Nat.reduceEqDiff, Nat.reduceAdd, Nat.reduceMul, Nat.reduceSub, Nat.reduceBEq, Nat.reduceLeDiff, Int.reduceEq, Int.reduceLT, Int.reduceLE, Int.reduceGE, Int.reduceGT, Int.reduceBEq, Int.reduceBNe, Int.reduceToNat, Int.reduceNeg, Int.reduceSub, Int.reduceAdd, Int.reduceMul, rr, lt_ok hi, succ_le hi, map_get hi, part_len, part_set _ _ hi, wrap_succ hi hl]
    refine hK _ ?_
    simp only [vv, ff, norm, Array.toList, List.map, Option.isSome_none, bne_self_eq_false, reduceIte, reduceCtorEq, Nat.reduceEqDiff, Nat.reduceAdd, Nat.reduceMul, Nat.reduceSub, Nat.reduceBEq, Nat.reduceLeDiff, Int.reduceEq, Int.reduceLT, Int.reduceLE, Int.reduceGE, Int.reduceGT, Int.reduceBEq, Int.reduceBNe, Int.reduceToNat, Int.reduceNeg, Int.reduceSub, Int.reduceAdd, Int.reduceMul, finish, qf0, resOf, resa, qf1, qf2, qf3, keep, qf4, qf5, qf6, qe9, qf]
  · simp only [vv, qa, qa0, clash, meets, execOp, evBox, opnd, qa1, bin, convHM, qa2, qa3, qa4, qa5, qa6, qa7, zOK, qa8, qa9, borL, isSl, qb, qb0, qb1, qb2, qb3, qb4, cellsOf, TD.agg, qb5, qb6, qb7, qb8, qb9, qc, qc0, qc1, setAt, qc2, qc3, qc4, getR, qc5, qc6, qc7, qc8, qc9, Array.toList, List.map, Option.isSome_none, bne_self_eq_false, reduceIte, reduceCtorEq, Nat.reduceEqDiff, Nat.reduceAdd, Nat.reduceMul, Nat.reduceSub, Nat.reduceBEq, Nat.reduceLeDiff, Int.reduceEq, Int.reduceLT, Int.reduceLE, Int.reduceGE, Int.reduceGT, Int.reduceBEq, Int.reduceBNe, Int.reduceToNat, Int.reduceNeg, Int.reduceSub, Int.reduceAdd, Int.reduceMul, rr, lt_no]
    simp only [vv, ff, qa, qa0, clash, meets, execOp, evBox, opnd, qa1, bin, convHM, qa2, qa3, qa4, qa5, qa6, qa7, zOK, qa8, qa9, borL, isSl, qb, qb0, qb1, qb2, qb3, qb4, cellsOf, TD.agg, qb5, qb6, qb7, qb8, qb9, qc, qc0, qc1, setAt, qc2, qc3, qc4, getR, qc5, qc6, qc7, qc8, qc9, Array.toList, List.map, Option.isSome_none, bne_self_eq_false, reduceIte, reduceCtorEq, Nat.reduceEqDiff, Nat.reduceAdd, Nat.reduceMul, Nat.reduceSub, Nat.reduceBEq, Nat.reduceLeDiff, Int.reduceEq, Int.reduceLT, Int.reduceLE, Int.reduceGE, Int.reduceGT, Int.reduceBEq, Int.reduceBNe, Int.reduceToNat, Int.reduceNeg, Int.reduceSub, Int.reduceAdd, Int.reduceMul, finish, qf0, resOf, resa, qf1, qf2, qf3, keep, qf4, qf5, qf6, qe9, qf, rr, part_full]

theorem e10 (d : Nat) (tg tg' : Tg) (cap cap' : Option Nat) (a b : List Int) (hl : a.length ≤ 2 ^ 39) : evFun E (d+1) 10 [.sl tg 1 a.length cap (a.map (iv .u8)), .sl tg' 1 b.length cap' (b.map (iv .u8))] [] = some (vb (decide (a = b)), []) := by
  refine evFun_body b10 ?_
  simp only [vv, qa, qa0, clash, meets, execOp, evBox, opnd, qa1, bin, convHM, qa2, qa3, qa4, qa5, qa6, qa7, zOK, qa8, qa9, borL, isSl, qb, qb0, qb1, qb2, qb3, qb4, cellsOf, TD.agg, qb5, qb6, qb7, qb8, qb9, qc, qc0, qc1, setAt, qc2, qc3, qc4, getR, qc5, qc6, qc7, qc8, qc9, Array.toList, List.map, Option.isSome_none, bne_self_eq_false, reduceIte, reduceCtorEq, Nat.reduceEqDiff, Nat.reduceAdd, Nat.reduceMul, Nat.reduceSub, Nat.reduceBEq, Nat.reduceLeDiff, Int.reduceEq, Int.reduceLT, Int.reduceLE, Int.reduceGE, Int.reduceGT, Int.reduceBEq, Int.reduceBNe, Int.reduceToNat, Int.reduceNeg, Int.reduceSub, Int.reduceAdd, Int.reduceMul, rr, Try.f10]
  refine evIf_elim (fun h => ?_) (fun h => ?_)
  · simp only [vv, qa, qa0, clash, meets, execOp, evBox, opnd, qa1, bin, convHM, qa2, qa3, qa4, qa5, qa6, qa7, zOK, qa8, qa9, borL, isSl, qb, qb0, qb1, qb2, qb3, qb4, cellsOf, TD.agg, qb5, qb6, qb7, qb8, qb9, qc, qc0, qc1, setAt, qc2, qc3, qc4, getR, qc5, qc6, qc7, qc8, qc9, Array.toList, List.map, Option.isSome_none, bne_self_eq_false, reduceIte, reduceCtorEq, Nat.reduceEqDiff, Nat.reduceAdd, Nat.reduceMul, Nat.reduceSub, Nat.reduceBEq, Nat.reduceLeDiff, Int.reduceEq, Int.reduceLT, Int.reduceLE, Int.reduceGE, Int.reduceGT, Int.reduceBEq, Int.reduceBNe, Int.reduceToNat, Int.reduceNeg, Int.reduceSub, Int.reduceAdd, Int.reduceMul, rr, h]
    simp only [vv, ff, qa, qa0, clash, meets, execOp, evBox, opnd, qa1, bin, convHM, qa2, qa3, qa4, qa5, qa6, qa7, zOK, qa8, qa9, borL, isSl, qb, qb0, qb1, qb2, qb3, qb4, cellsOf, TD.agg, qb5, qb6, qb7, qb8, qb9, qc, qc0, qc1, setAt, qc2, qc3, qc4, getR, qc5, qc6, qc7, qc8, qc9, Array.toList, List.map, Option.isSome_none, bne_self_eq_false, reduceIte, reduceCtorEq, Nat.reduceEqDiff, Nat.reduceAdd, Nat.reduceMul, Nat.reduceSub, Nat.reduceBEq, Nat.reduceLeDiff, Int.reduceEq, Int.reduceLT, Int.reduceLE, Int.reduceGE, Int.reduceGT, Int.reduceBEq, Int.reduceBNe, Int.reduceToNat, Int.reduceNeg, Int.reduceSub, Int.reduceAdd, Int.reduceMul, finish, qf0, resOf, resa, qf1, qf2, qf3, keep, qf4, qf5, qf6, qe9, qf, rr]
    have : a ≠ b := by intro e; subst e; simp at h
    simp [this]
  · have hab : a.length = b.length := by simp at h; omega
    simp only [vv, qa, qa0, clash, meets, execOp, evBox, opnd, qa1, bin, convHM, qa2, qa3, qa4, qa5, qa6, qa7, zOK, qa8, qa9, borL, isSl, qb, qb0, qb1, qb2, qb3, qb4, cellsOf, TD.agg, qb5, qb6, qb7, qb8, qb9, qc, qc0, qc1, setAt, qc2, qc3, qc4, getR, qc5, qc6, qc7, qc8, qc9, Array.toList, List.map, Option.isSome_none, bne_self_eq_false, reduceIte, reduceCtorEq, Nat.reduceEqDiff, Nat.reduceAdd, Nat.reduceMul, Nat.reduceSub, Nat.reduceBEq, Nat.reduceLeDiff, Int.reduceEq, Int.reduceLT, Int.reduceLE, Int.reduceGE, Int.reduceGT, Int.reduceBEq, Int.reduceBNe, Int.reduceToNat, Int.reduceNeg, Int.reduceSub, Int.reduceAdd, Int.reduceMul, rr, h]
    refine loop_inv (fun i => ∀ j, j < i → a[j]? = b[j]?) (fun i => {T := tp [(0, .sl tg 1 a.length cap (a.map (iv .u8))), (1, .sl tg' 1 b.length cap' (b.map (iv .u8))), (5, vi i)], H := hp [], nx := 0}) a.length ?_ (fun j h => by omega) (lt_LF hl) (fun i hi hI Kn hK => ?_) (fun hI Kn => ?_)
    · simp only [vv, ff, norm, Array.toList, List.map, Option.isSome_none, bne_self_eq_false, reduceIte, reduceCtorEq, Nat.reduceEqDiff, Nat.reduceAdd, Nat.reduceMul, Nat.reduceSub, Nat.reduceBEq, Nat.reduceLeDiff, Int.reduceEq, Int.reduceLT, Int.reduceLE, Int.reduceGE, Int.reduceGT, Int.reduceBEq, Int.reduceBNe, Int.reduceToNat, Int.reduceNeg, Int.reduceSub, Int.reduceAdd, Int.reduceMul, finish, qf0, resOf, resa, qf1, qf2, qf3, keep, qf4, qf5, qf6, qe9, qf, Int.natCast_zero]
    · have hib : i < b.length := by omega
      simp only [vv, qa, qa0, clash, meets, execOp, evBox, opnd, qa1, bin, convHM, qa2, qa3, qa4, qa5, qa6, qa7, zOK, qa8, qa9, borL, isSl, qb, qb0, qb1, qb2, qb3, qb4, cellsOf, TD.agg, qb5, qb6, qb7, qb8, qb9, qc, qc0, qc1, setAt, qc2, qc3, qc4, getR, qc5, qc6, qc7, qc8, qc9, Array.toList, List.map, Option.isSome_none, bne_self_eq_false, reduceIte, reduceCtorEq, Nat.reduceEqDiff, Nat.reduceAdd, Nat.reduceMul, Nat.reduceSub, Nat.reduceBEq, Nat.reduceLeDiff, Int.reduceEq, Int.reduceLT, Int.reduceLE, Int.reduceGE, Int.reduceGT, Int.reduceBEq, Int.reduceBNe, Int.reduceToNat, Int.reduceNeg, Int.reduceSub, Int.reduceAdd, Int.reduceMul, rr, lt_ok hi, lt_ok hib, map_get hi, map_get hib]
      refine evIf_elim (fun h => ?_) (fun h => ?_)
      · simp only [vv, qa, qa0, clash, meets, execOp, evBox, opnd, qa1, bin, convHM, qa2, qa3, qa4, qa5, qa6, qa7, zOK, qa8, qa9, borL, isSl, qb, qb0, qb1, qb2, qb3, qb4, cellsOf, TD.agg, qb5, qb6, qb7, qb8, qb9, qc, qc0, qc1, setAt, qc2, qc3, qc4, getR, qc5, qc6, qc7, qc8, qc9, Array.toList, List.map, Option.isSome_none, bne_self_eq_false, reduceIte, reduceCtorEq, Nat.reduceEqDiff, Nat.reduceAdd, Nat.reduceMul, Nat.reduceSub, Nat.reduceBEq, Nat.reduceLeDiff, Int.reduceEq, Int.reduceLT, Int.reduceLE, Int.reduceGE, Int.reduceGT, Int.reduceBEq, Int.reduceBNe, Int.reduceToNat, Int.reduceNeg, Int.reduceSub, Int.reduceAdd, Int.reduceMul, rr]
        simp only [vv, ff, qa, qa0, clash, meets, execOp, evBox, opnd, qa1, bin, convHM, qa2, qa3, qa4, qa5, qa6, qa7, zOK, qa8, qa9, borL, isSl, qb, qb0, qb1, qb2, qb3, qb4, cellsOf, TD.agg, qb5, qb6, qb7, qb8, qb9, qc, qc0, qc1, setAt, qc2, qc3, qc4, getR, qc5, qc6, qc7, qc8, qc9, Array.toList, List.map, Option.isSome_none, bne_self_eq_false, reduceIte, reduceCtorEq, Nat.reduceEqDiff, Nat.reduceAdd, Nat.reduceMul, Nat.reduceSub, Nat.reduceBEq, Nat.reduceLeDiff, Int.reduceEq, Int.reduceLT, Int.reduceLE, Int.reduceGE, Int.reduceGT, Int.reduceBEq, Int.reduceBNe, Int.reduceToNat, Int.reduceNeg, Int.reduceSub, Int.reduceAdd, Int.reduceMul, finish, qf0, resOf, resa, qf1, qf2, qf3, keep, qf4, qf5, qf6, qe9, qf, rr]
        have : a ≠ b := by intro e; subst e; simp at h
        simp [this]
      · have hx : a[i] = b[i] := by simpa using h
        simp only [vv, qa, qa0, clash, meets, execOp, evBox, opnd, qa1, bin, convHM, qa2, qa3, qa4, qa5, qa6, qa7, zOK, qa8, qa9, borL, isSl, qb, qb0, qb1, qb2, qb3, qb4, cellsOf, TD.agg, qb5, qb6, qb7, qb8, qb9, qc, qc0, qc1, setAt, qc2, qc3, qc4, getR, qc5, qc6, qc7, qc8, qc9, Array.toList, List.map, Option.isSome_none, bne_self_eq_false, reduceIte, reduceCtorEq, Nat.reduceEqDiff, Nat.reduceAdd, Nat.reduceMul, Nat.reduceSub, Nat.reduceBEq, Nat.reduceLeDiff, Int.reduceEq, Int.reduceLT, Int.reduceLE, Int.reduceGE, Int.reduceGT, Int.reduceBEq, Int.reduceBNe, Int.reduceToNat, Int.reduceNeg, Int.reduceSub, Int.reduceAdd, Int.reduceMul, rr, wrap_succ hi hl]
        refine hK (fun j hj => ?_) _ ?_
        · by_cases e : j = i
          · subst e; rw [List.getElem?_eq_getElem hi, List.getElem?_eq_getElem hib, hx]
          · exact hI j (by omega)
        · simp only [vv, ff, norm, Array.toList, List.map, Option.isSome_none, bne_self_eq_false, reduceIte, reduceCtorEq, Nat.reduceEqDiff, Nat.reduceAdd, Nat.reduceMul, Nat.reduceSub, Nat.reduceBEq, Nat.reduceLeDiff, Int.reduceEq, Int.reduceLT, Int.reduceLE, Int.reduceGE, Int.reduceGT, Int.reduceBEq, Int.reduceBNe, Int.reduceToNat, Int.reduceNeg, Int.reduceSub, Int.reduceAdd, Int.reduceMul, finish, qf0, resOf, resa, qf1, qf2, qf3, keep, qf4, qf5, qf6, qe9, qf]
    · simp only [vv, qa, qa0, clash, meets, execOp, evBox, opnd, qa1, bin, convHM, qa2, qa3, qa4, qa5, qa6, qa7, zOK, qa8, qa9, borL, isSl, qb, qb0, qb1, qb2, qb3, qb4, cellsOf, TD.agg, qb5, qb6, qb7, qb8, qb9, qc, qc0, qc1, setAt, qc2, qc3, qc4, getR, qc5, qc6, qc7, qc8, qc9, Array.toList, List.map, Option.isSome_none, bne_self_eq_false, reduceIte, reduceCtorEq, Nat.reduceEqDiff, Nat.reduceAdd, Nat.reduceMul, Nat.reduceSub, Nat.reduceBEq, Nat.reduceLeDiff, Int.reduceEq, Int.reduceLT, Int.reduceLE, Int.reduceGE, Int.reduceGT, Int.reduceBEq, Int.reduceBNe, Int.reduceToNat, Int.reduceNeg, Int.reduceSub, Int.reduceAdd, Int.reduceMul, rr, lt_no]
      simp only [vv, ff, qa, qa0, clash, meets, execOp, evBox, opnd, qa1, bin, convHM, qa2, qa3, qa4, qa5, qa6, qa7, zOK, qa8, qa9, borL, isSl, qb, qb0, qb1, qb2, qb3, qb4, cellsOf, TD.agg, qb5, qb6, qb7, qb8, qb9, qc, qc0, qc1, setAt, qc2, qc3, qc4, getR, qc5, qc6, qc7, qc8, qc9, Array.toList, List.map, Option.isSome_none, bne_self_eq_false, reduceIte, reduceCtorEq, Nat.reduceEqDiff, Nat.reduceAdd, Nat.reduceMul, Nat.reduceSub, Nat.reduceBEq, Nat.reduceLeDiff, Int.reduceEq, Int.reduceLT, Int.reduceLE, Int.reduceGE, Int.reduceGT, Int.reduceBEq, Int.reduceBNe, Int.reduceToNat, Int.reduceNeg, Int.reduceSub, Int.reduceAdd, Int.reduceMul, finish, qf0, resOf, resa, qf1, qf2, qf3, keep, qf4, qf5, qf6, qe9, qf, rr]
      have : a = b := List.ext_getElem? fun j => by
        by_cases hj : j < a.length
        · exact hI j hj
        · rw [List.getElem?_eq_none (by omega), List.getElem?_eq_none (by omega)]
      simp [this]
theorem e11 (d : Nat) (tg tg' : Tg) (cap cap' : Option Nat) (a b : List Int) (hl : a.length ≤ 2 ^ 39) : evFun E (d+1) 11 [.sl tg 1 a.length cap (a.map (iv .i64)), .sl tg' 1 b.length cap' (b.map (iv .i64))] [] = some (vb (decide (a = b)), []) := by
  refine evFun_body b11 ?_
  simp only [vv, qa, qa0, clash, meets, execOp, evBox, opnd, qa1, bin, convHM, qa2, qa3, qa4, qa5, qa6, qa7, zOK, qa8, qa9, borL, isSl, qb, qb0, qb1, qb2, qb3, qb4, cellsOf, TD.agg, qb5, qb6, qb7, qb8, qb9, qc, qc0, qc1, setAt, qc2, qc3, qc4, getR, qc5, qc6, qc7, qc8, qc9, Array.toList, List.map, Option.isSome_none, bne_self_eq_false, reduceIte, reduceCtorEq, Nat.reduceEqDiff, Nat.reduceAdd, Nat.reduceMul, Nat.reduceSub, Nat.reduceBEq, Nat.reduceLeDiff, Int.reduceEq, Int.reduceLT, Int.reduceLE, Int.reduceGE, Int.reduceGT, Int.reduceBEq, Int.reduceBNe, Int.reduceToNat, Int.reduceNeg, Int.reduceSub, Int.reduceAdd, Int.reduceMul, rr, Try.f11]
  refine evIf_elim (fun h => ?_) (fun h => ?_)
  · simp only [vv, qa, qa0, clash, meets, execOp, evBox, opnd, qa1, bin, convHM, qa2, qa3, qa4, qa5, qa6, qa7, zOK, qa8, qa9, borL, isSl, qb, qb0, qb1, qb2, qb3, qb4, cellsOf, TD.agg, qb5, qb6, qb7, qb8, qb9, qc, qc0, qc1, setAt, qc2, qc3, qc4, getR, qc5, qc6, qc7, qc8, qc9, Array.toList, List.map, Option.isSome_none, bne_self_eq_false, reduceIte, reduceCtorEq, Nat.reduceEqDiff, Nat.reduceAdd, Nat.reduceMul, Nat.reduceSub, Nat.reduceBEq, Nat.reduceLeDiff, Int.reduceEq, Int.reduceLT, Int.reduceLE, Int.reduceGE, Int.reduceGT, Int.reduceBEq, Int.reduceBNe, Int.reduceToNat, Int.reduceNeg, Int.reduceSub, Int.reduceAdd, Int.reduceMul, rr, h]
    simp only [vv, ff, qa, qa0, clash, meets, execOp, evBox, opnd, qa1, bin, convHM, qa2, qa3, qa4, qa5, qa6, qa7, zOK, qa8, qa9, borL, isSl, qb, qb0, qb1, qb2, qb3, qb4, cellsOf, TD.agg, qb5, qb6, qb7, qb8, qb9, qc, qc0, qc1, setAt, qc2, qc3, qc4, getR, qc5, qc6, qc7, qc8, qc9, Array.toList, List.map, Option.isSome_none, bne_self_eq_false, reduceIte, reduceCtorEq, Nat.reduceEqDiff, Nat.reduceAdd, Nat.reduceMul, Nat.reduceSub, Nat.reduceBEq, Nat.reduceLeDiff, Int.reduceEq, Int.reduceLT, Int.reduceLE, Int.reduceGE, Int.reduceGT, Int.reduceBEq, Int.reduceBNe, Int.reduceToNat, Int.reduceNeg, Int.reduceSub, Int.reduceAdd, Int.reduceMul, finish, qf0, resOf, resa, qf1, qf2, qf3, keep, qf4, qf5, qf6, qe9, qf, rr]
    have : a ≠ b := by intro e; subst e; simp at h
    simp [this]
  · have hab : a.length = b.length := by simp at h; omega
    simp only [vv, qa, qa0, clash, meets, execOp, evBox, opnd, qa1, bin, convHM, qa2, qa3, qa4, qa5, qa6, qa7, zOK, qa8, qa9, borL, isSl, qb, qb0, qb1, qb2, qb3, qb4, cellsOf, TD.agg, qb5, qb6, qb7, qb8, qb9, qc, qc0, qc1, setAt, qc2, qc3, qc4, getR, qc5, qc6, qc7, qc8, qc9, Array.toList, List.map, Option.isSome_none, bne_self_eq_false, reduceIte, reduceCtorEq, Nat.reduceEqDiff, Nat.reduceAdd, Nat.reduceMul, Nat.reduceSub, Nat.reduceBEq, Nat.reduceLeDiff, Int.reduceEq, Int.reduceLT, Int.reduceLE, Int.reduceGE, Int.reduceGT, Int.reduceBEq, Int.reduceBNe, Int.reduceToNat, Int.reduceNeg, Int.reduceSub, Int.reduceAdd, Int.reduceMul, rr, h]
    refine loop_inv (fun i => ∀ j, j < i → a[j]? = b[j]?) (fun i => {T := tp [(0, .sl tg 1 a.length cap (a.map (iv .i64))), (1, .sl tg' 1 b.length cap' (b.map (iv .i64))), (5, vi i)], H := hp [], nx := 0}) a.length ?_ (fun j h => by omega) (lt_LF hl) (fun i hi hI Kn hK => ?_) (fun hI Kn => ?_)
    · simp only [vv, ff, norm, Array.toList, List.map, Option.isSome_none, bne_self_eq_false, reduceIte, reduceCtorEq, Nat.reduceEqDiff, Nat.reduceAdd, Nat.reduceMul, Nat.reduceSub, Nat.reduceBEq, Nat.reduceLeDiff, Int.reduceEq, Int.reduceLT, Int.reduceLE, Int.reduceGE, Int.reduceGT, Int.reduceBEq, Int.reduceBNe, Int.reduceToNat, Int.reduceNeg, Int.reduceSub, Int.reduceAdd, Int.reduceMul, finish, qf0, resOf, resa, qf1, qf2, qf3, keep, qf4, qf5, qf6, qe9, qf, Int.natCast_zero]
    · have hib : i < b.length := by omega
      simp only [vv, qa, qa0, clash, meets, execOp, evBox, opnd, qa1, bin, convHM, qa2, qa3, qa4, qa5, qa6, qa7, zOK, qa8, qa9, borL, isSl, qb, qb0, qb1, qb2, qb3, qb4, cellsOf, TD.agg, qb5, qb6, qb7, qb8, qb9, qc, qc0, qc1, setAt, qc2, qc3, qc4, getR, qc5, qc6, qc7, qc8, qc9, Array.toList, List.map, Option.isSome_none, bne_self_eq_false, reduceIte, reduceCtorEq, Nat.reduceEqDiff, Nat.reduceAdd, Nat.reduceMul, Nat.reduceSub, Nat.reduceBEq, Nat.reduceLeDiff, Int.reduceEq, Int.reduceLT, Int.reduceLE, Int.reduceGE, Int.reduceGT, Int.reduceBEq, Int.reduceBNe, Int.reduceToNat, Int.reduceNeg, Int.reduceSub, Int.reduceAdd, Int.reduceMul, rr, lt_ok hi, lt_ok hib, map_get hi, map_get hib]
      refine evIf_elim (fun h => ?_) (fun h => ?_)
      · simp only [vv, qa, qa0, clash, meets, execOp, evBox, opnd, qa1, bin, convHM, qa2, qa3, qa4, qa5, qa6, qa7, zOK, qa8, qa9, borL, isSl, qb, qb0, qb1, qb2, qb3, qb4, cellsOf, TD.agg, qb5, qb6, qb7, qb8, qb9, qc, qc0, qc1, setAt, qc2, qc3, qc4, getR, qc5, qc6, qc7, qc8, qc9, Array.toList, List.map, Option.isSome_none, bne_self_eq_false, reduceIte, reduceCtorEq, Nat.reduceEqDiff, Nat.reduceAdd, Nat.reduceMul, Nat.reduceSub, Nat.reduceBEq, Nat.reduceLeDiff, Int.reduceEq, Int.reduceLT, Int.reduceLE, Int.reduceGE, Int.reduceGT, Int.reduceBEq, Int.reduceBNe, Int.reduceToNat, Int.reduceNeg, Int.reduceSub, Int.reduceAdd, Int.reduceMul, rr]
        simp only [vv, ff, qa, qa0, clash, meets, execOp, evBox, opnd, qa1, bin, convHM, qa2, qa3, qa4, qa5, qa6, qa7, zOK, qa8, qa9, borL, isSl, qb, qb0, qb1, qb2, qb3, qb4, cellsOf, TD.agg, qb5, qb6, qb7, qb8, qb9, qc, qc0, qc1, setAt, qc2, qc3, qc4, getR, qc5, qc6, qc7, qc8, qc9, Array.toList, List.map, Option.isSome_none, bne_self_eq_false, reduceIte, reduceCtorEq, Nat.reduceEqDiff, Nat.reduceAdd, Nat.reduceMul, Nat.reduceSub, Nat.reduceBEq, Nat.reduceLeDiff, Int.reduceEq, Int.reduceLT, Int.reduceLE, Int.reduceGE, Int.reduceGT, Int.reduceBEq, Int.reduceBNe, Int.reduceToNat, Int.reduceNeg, Int.reduceSub, Int.reduceAdd, Int.reduceMul, finish, qf0, resOf, resa, qf1, qf2, qf3, keep, qf4, qf5, qf6, qe9, qf, rr]
        have : a ≠ b := by intro e; subst e; simp at h
        simp [this]
      · have hx : a[i] = b[i] := by simpa using h
        simp only [vv, qa, qa0, clash, meets, execOp, evBox, opnd, qa1, bin, convHM, qa2, qa3, qa4, qa5, qa6, qa7, zOK, qa8, qa9, borL, isSl, qb, qb0, qb1, qb2, qb3, qb4, cellsOf, TD.agg, qb5, qb6, qb7, qb8, qb9, qc, qc0, qc1, setAt, qc2, qc3, qc4, getR, qc5, qc6, qc7, qc8, qc9, Array.toList, List.map, Option.isSome_none, bne_self_eq_false, reduceIte, reduceCtorEq, Nat.reduceEqDiff, Nat.reduceAdd, Nat.reduceMul, Nat.reduceSub, Nat.reduceBEq, Nat.reduceLeDiff, Int.reduceEq, Int.reduceLT, Int.reduceLE, Int.reduceGE, Int.reduceGT, Int.reduceBEq, Int.reduceBNe, Int.reduceToNat, Int.reduceNeg, Int.reduceSub, Int.reduceAdd, Int.reduceMul, rr, wrap_succ hi hl]
        refine hK (fun j hj => ?_) _ ?_
        · by_cases e : j = i
          · subst e; rw [List.getElem?_eq_getElem hi, List.getElem?_eq_getElem hib, hx]
          · exact hI j (by omega)
        · simp only [vv, ff, norm, Array.toList, List.map, Option.isSome_none, bne_self_eq_false, reduceIte, reduceCtorEq, Nat.reduceEqDiff, Nat.reduceAdd, Nat.reduceMul, Nat.reduceSub, Nat.reduceBEq, Nat.reduceLeDiff, Int.reduceEq, Int.reduceLT, Int.reduceLE, Int.reduceGE, Int.reduceGT, Int.reduceBEq, Int.reduceBNe, Int.reduceToNat, Int.reduceNeg, Int.reduceSub, Int.reduceAdd, Int.reduceMul, finish, qf0, resOf, resa, qf1, qf2, qf3, keep, qf4, qf5, qf6, qe9, qf]
    · simp only [vv, qa, qa0, clash, meets, execOp, evBox, opnd, qa1, bin, convHM, qa2, qa3, qa4, qa5, qa6, qa7, zOK, qa8, qa9, borL, isSl, qb, qb0, qb1, qb2, qb3, qb4, cellsOf, TD.agg, qb5, qb6, qb7, qb8, qb9, qc, qc0, qc1, setAt, qc2, qc3, qc4, getR, qc5, qc6, qc7, qc8, qc9, Array.toList, List.map, Option.isSome_none, bne_self_eq_false, reduceIte, reduceCtorEq, Nat.reduceEqDiff, Nat.reduceAdd, Nat.reduceMul, Nat.reduceSub, Nat.reduceBEq, Nat.reduceLeDiff, Int.reduceEq, Int.reduceLT, Int.reduceLE, Int.reduceGE, Int.reduceGT, Int.reduceBEq, Int.reduceBNe, Int.reduceToNat, Int.reduceNeg, Int.reduceSub, Int.reduceAdd, Int.reduceMul, rr, lt_no]
      simp only [vv, ff, qa, qa0, clash, meets, execOp, evBox, opnd, qa1, bin, convHM, qa2, qa3, qa4, qa5, qa6, qa7, zOK, qa8, qa9, borL, isSl, qb, qb0, qb1, qb2, qb3, qb4, cellsOf, TD.agg, qb5, qb6, qb7, qb8, qb9, qc, qc0, qc1, setAt, qc2, qc3, qc4, getR, qc5, qc6, qc7, qc8, qc9, Array.toList, List.map, Option.isSome_none, bne_self_eq_false, reduceIte, reduceCtorEq, Nat.reduceEqDiff, Nat.reduceAdd, Nat.reduceMul, Nat.reduceSub, Nat.reduceBEq, Nat.reduceLeDiff, Int.reduceEq, Int.reduceLT, Int.reduceLE, Int.reduceGE, Int.reduceGT, Int.reduceBEq, Int.reduceBNe, Int.reduceToNat, Int.reduceNeg, Int.reduceSub, Int.reduceAdd, Int.reduceMul, finish, qf0, resOf, resa, qf1, qf2, qf3, keep, qf4, qf5, qf6, qe9, qf, rr]
      have : a = b := List.ext_getElem? fun j => by
        by_cases hj : j < a.length
        · exact hI j hj
        · rw [List.getElem?_eq_none (by omega), List.getElem?_eq_none (by omega)]
      simp [this]

abbrev bad (x : Int) : Bool := !(decide (x ≥ 0) && decide (x ≤ 1152921504606846975))
end Go.Proofs.Ythgopooldcheeaa.VH.S
end

section
namespace Go.Proofs.Ythgopooldcheeaa.VH.S
open Go.Proofs
set_option maxRecDepth 100000
set_option maxHeartbeats 4000000
set_option linter.unusedSimpArgs false

theorem a13 : andU 13 63 = 13 := by decide
end Go.Proofs.Ythgopooldcheeaa.VH.S
end

section
namespace Go.Proofs.Ythgopooldcheeaa.VH.S
open Go.Proofs
set_option maxRecDepth 100000
set_option maxHeartbeats 4000000
set_option linter.unusedSimpArgs false

end Go.Proofs.Ythgopooldcheeaa.VH.S
end

section
namespace Go.Proofs.Ythgopooldcheeaa.VH.S
open Go.Proofs
set_option maxRecDepth 100000
set_option maxHeartbeats 4000000
set_option linter.unusedSimpArgs false

end Go.Proofs.Ythgopooldcheeaa.VH.S
end

section
namespace Go.Proofs.Ythgopooldcheeaa.VH.S
open Go.Proofs
set_option maxRecDepth 100000
set_option maxHeartbeats 4000000
set_option linter.unusedSimpArgs false

theorem e15 (d : Nat) (l : List Int) (cap : Option Nat) (k : Int) (hk : 0 ≤ k) (hl : k + l.length ≤ 549755813888) : evFun E (d+1) 15 [.ref 0 [] 1 0 l.length cap, vi k] [l.map (iv .u8)] = some (vi (k + l.length), [some ((marks .u8 k l.length).map (iv .u8))]) := by
  refine evFun_body b15 ?_
  simp only [vv, qa, qa0, clash, meets, execOp, evBox, opnd, qa1, bin, convHM, qa2, qa3, qa4, qa5, qa6, qa7, zOK, qa8, qa9, borL, isSl, qb, qb0, qb1, qb2, qb3, qb4, cellsOf, TD.agg, qb5, qb6, qb7, qb8, qb9, qc, qc0, qc1, setAt, qc2, qc3, qc4, getR, qc5, qc6, qc7, qc8, qc9, Array.toList, List.map, Option.isSome_none, bne_self_eq_false, reduceIte, reduceCtorEq, Nat.reduceEqDiff, Nat.reduceAdd, Nat.reduceMul, Nat.reduceSub, Nat.reduceBEq, Nat.reduceLeDiff, Int.reduceEq, Int.reduceLT, Int.reduceLE, Int.reduceGE, Int.reduceGT, Int.reduceBEq, Int.reduceBNe, Int.reduceToNat, Int.reduceNeg, Int.reduceSub, Int.reduceAdd, Int.reduceMul, rr, Try.f15]
  refine loop_go (fun i => {T := tp [(0, .ref 0 [] 1 0 l.length cap), (1, vi (k + (i : Int))), (5, vi i)], H := hp [some (markP .u8 k l i)], nx := 1}) l.length ?_ (lt_LF (by omega)) (fun i hi Kn hK => ?_) (fun Kn => ?_)
  · simp only [vv, ff, norm, Array.toList, List.map, Option.isSome_none, bne_self_eq_false, reduceIte, reduceCtorEq, Nat.reduceEqDiff, Nat.reduceAdd, Nat.reduceMul, Nat.reduceSub, Nat.reduceBEq, Nat.reduceLeDiff, Int.reduceEq, Int.reduceLT, Int.reduceLE, Int.reduceGE, Int.reduceGT, Int.reduceBEq, Int.reduceBNe, Int.reduceToNat, Int.reduceNeg, Int.reduceSub, Int.reduceAdd, Int.reduceMul, finish, qf0, resOf, resa, qf1, qf2, qf3, keep, qf4, qf5, qf6, qe9, qf, Int.natCast_zero, Int.add_zero, markP_zero]
  · simp only [vv, qa, qa0, clash, meets, execOp, evBox, opnd, qa1, bin, convHM, qa2, qa3, qa4, qa5, qa6, qa7, zOK, qa8, qa9, borL, isSl, qb, qb0, qb1, qb2, qb3, qb4, cellsOf, TD.agg, qb5, qb6, qb7, qb8, qb9, qc, qc0, qc1, setAt, qc2, qc3, qc4, getR, qc5, qc6, qc7, qc8, qc9, Array.toList, List.map, Option.isSome_none, bne_self_eq_false, reduceIte, reduceCtorEq, Nat.reduceEqDiff, Nat.reduceAdd, Nat.reduceMul, Nat.reduceSub, Nat.reduceBEq, Nat.reduceLeDiff, Int.reduceEq, Int.reduceLT, Int.reduceLE, Int.reduceGE, Int.reduceGT, Int.reduceBEq, Int.reduceBNe, Int.reduceToNat, Int.reduceNeg, Int.reduceSub, Int.reduceAdd, Int.reduceMul, rr, lt_ok hi, markP_lt _ _ _ hi, markP_set _ _ _ hi, wrap_succ hi (show l.length ≤ 2 ^ 39 by omega), wrapS hi hk hl]
    refine hK _ ?_
    simp only [vv, ff, norm, Array.toList, List.map, Option.isSome_none, bne_self_eq_false, reduceIte, reduceCtorEq, Nat.reduceEqDiff, Nat.reduceAdd, Nat.reduceMul, Nat.reduceSub, Nat.reduceBEq, Nat.reduceLeDiff, Int.reduceEq, Int.reduceLT, Int.reduceLE, Int.reduceGE, Int.reduceGT, Int.reduceBEq, Int.reduceBNe, Int.reduceToNat, Int.reduceNeg, Int.reduceSub, Int.reduceAdd, Int.reduceMul, finish, qf0, resOf, resa, qf1, qf2, qf3, keep, qf4, qf5, qf6, qe9, qf]
  · simp only [vv, qa, qa0, clash, meets, execOp, evBox, opnd, qa1, bin, convHM, qa2, qa3, qa4, qa5, qa6, qa7, zOK, qa8, qa9, borL, isSl, qb, qb0, qb1, qb2, qb3, qb4, cellsOf, TD.agg, qb5, qb6, qb7, qb8, qb9, qc, qc0, qc1, setAt, qc2, qc3, qc4, getR, qc5, qc6, qc7, qc8, qc9, Array.toList, List.map, Option.isSome_none, bne_self_eq_false, reduceIte, reduceCtorEq, Nat.reduceEqDiff, Nat.reduceAdd, Nat.reduceMul, Nat.reduceSub, Nat.reduceBEq, Nat.reduceLeDiff, Int.reduceEq, Int.reduceLT, Int.reduceLE, Int.reduceGE, Int.reduceGT, Int.reduceBEq, Int.reduceBNe, Int.reduceToNat, Int.reduceNeg, Int.reduceSub, Int.reduceAdd, Int.reduceMul, rr, lt_no]
    simp only [vv, ff, qa, qa0, clash, meets, execOp, evBox, opnd, qa1, bin, convHM, qa2, qa3, qa4, qa5, qa6, qa7, zOK, qa8, qa9, borL, isSl, qb, qb0, qb1, qb2, qb3, qb4, cellsOf, TD.agg, qb5, qb6, qb7, qb8, qb9, qc, qc0, qc1, setAt, qc2, qc3, qc4, getR, qc5, qc6, qc7, qc8, qc9, Array.toList, List.map, Option.isSome_none, bne_self_eq_false, reduceIte, reduceCtorEq, Nat.reduceEqDiff, Nat.reduceAdd, Nat.reduceMul, Nat.reduceSub, Nat.reduceBEq, Nat.reduceLeDiff, Int.reduceEq, Int.reduceLT, Int.reduceLE, Int.reduceGE, Int.reduceGT, Int.reduceBEq, Int.reduceBNe, Int.reduceToNat, Int.reduceNeg, Int.reduceSub, Int.reduceAdd, Int.reduceMul, finish, qf0, resOf, resa, qf1, qf2, qf3, keep, qf4, qf5, qf6, qe9, qf, rr, markP_full]
theorem e16 (d : Nat) (tg : Tg) (cap : Option Nat) (n : Nat) (k : Int) (hk : 0 ≤ k) (hl : k + n ≤ 549755813888) : evFun E (d+1) 16 [.sl tg 1 n cap ((marks .u8 k n).map (iv .u8)), vi k] [] = some (vi (k + n), []) := by
  refine evFun_body b16 ?_
  simp only [vv, qa, qa0, clash, meets, execOp, evBox, opnd, qa1, bin, convHM, qa2, qa3, qa4, qa5, qa6, qa7, zOK, qa8, qa9, borL, isSl, qb, qb0, qb1, qb2, qb3, qb4, cellsOf, TD.agg, qb5, qb6, qb7, qb8, qb9, qc, qc0, qc1, setAt, qc2, qc3, qc4, getR, qc5, qc6, qc7, qc8, qc9, Array.toList, List.map, Option.isSome_none, bne_self_eq_false, reduceIte, reduceCtorEq, Nat.reduceEqDiff, Nat.reduceAdd, Nat.reduceMul, Nat.reduceSub, Nat.reduceBEq, Nat.reduceLeDiff, Int.reduceEq, Int.reduceLT, Int.reduceLE, Int.reduceGE, Int.reduceGT, Int.reduceBEq, Int.reduceBNe, Int.reduceToNat, Int.reduceNeg, Int.reduceSub, Int.reduceAdd, Int.reduceMul, rr, Try.f16]
  refine loop_go (fun i => {T := tp [(0, .sl tg 1 n cap ((marks .u8 k n).map (iv .u8))), (1, vi (k + (i : Int))), (5, vi i)], H := hp [], nx := 0}) n ?_ (lt_LF (by omega)) (fun i hi Kn hK => ?_) (fun Kn => ?_)
  · simp only [vv, ff, norm, Array.toList, List.map, Option.isSome_none, bne_self_eq_false, reduceIte, reduceCtorEq, Nat.reduceEqDiff, Nat.reduceAdd, Nat.reduceMul, Nat.reduceSub, Nat.reduceBEq, Nat.reduceLeDiff, Int.reduceEq, Int.reduceLT, Int.reduceLE, Int.reduceGE, Int.reduceGT, Int.reduceBEq, Int.reduceBNe, Int.reduceToNat, Int.reduceNeg, Int.reduceSub, Int.reduceAdd, Int.reduceMul, finish, qf0, resOf, resa, qf1, qf2, qf3, keep, qf4, qf5, qf6, qe9, qf, Int.natCast_zero, Int.add_zero]
  · simp only [vv, qa, qa0, clash, meets, execOp, evBox, opnd, qa1, bin, convHM, qa2, qa3, qa4, qa5, qa6, qa7, zOK, qa8, qa9, borL, isSl, qb, qb0, qb1, qb2, qb3, qb4, cellsOf, TD.agg, qb5, qb6, qb7, qb8, qb9, qc, qc0, qc1, setAt, qc2, qc3, qc4, getR, qc5, qc6, qc7, qc8, qc9, Array.toList, List.map, Option.isSome_none, bne_self_eq_false, reduceIte, reduceCtorEq, Nat.reduceEqDiff, Nat.reduceAdd, Nat.reduceMul, Nat.reduceSub, Nat.reduceBEq, Nat.reduceLeDiff, Int.reduceEq, Int.reduceLT, Int.reduceLE, Int.reduceGE, Int.reduceGT, Int.reduceBEq, Int.reduceBNe, Int.reduceToNat, Int.reduceNeg, Int.reduceSub, Int.reduceAdd, Int.reduceMul, rr, lt_ok hi, marks_get _ _ hi, bne_self_eq_false, wrap_succ hi (show n ≤ 2 ^ 39 by omega), wrapS hi hk hl]
    refine hK _ ?_
    simp only [vv, ff, norm, Array.toList, List.map, Option.isSome_none, bne_self_eq_false, reduceIte, reduceCtorEq, Nat.reduceEqDiff, Nat.reduceAdd, Nat.reduceMul, Nat.reduceSub, Nat.reduceBEq, Nat.reduceLeDiff, Int.reduceEq, Int.reduceLT, Int.reduceLE, Int.reduceGE, Int.reduceGT, Int.reduceBEq, Int.reduceBNe, Int.reduceToNat, Int.reduceNeg, Int.reduceSub, Int.reduceAdd, Int.reduceMul, finish, qf0, resOf, resa, qf1, qf2, qf3, keep, qf4, qf5, qf6, qe9, qf]
  · simp only [vv, qa, qa0, clash, meets, execOp, evBox, opnd, qa1, bin, convHM, qa2, qa3, qa4, qa5, qa6, qa7, zOK, qa8, qa9, borL, isSl, qb, qb0, qb1, qb2, qb3, qb4, cellsOf, TD.agg, qb5, qb6, qb7, qb8, qb9, qc, qc0, qc1, setAt, qc2, qc3, qc4, getR, qc5, qc6, qc7, qc8, qc9, Array.toList, List.map, Option.isSome_none, bne_self_eq_false, reduceIte, reduceCtorEq, Nat.reduceEqDiff, Nat.reduceAdd, Nat.reduceMul, Nat.reduceSub, Nat.reduceBEq, Nat.reduceLeDiff, Int.reduceEq, Int.reduceLT, Int.reduceLE, Int.reduceGE, Int.reduceGT, Int.reduceBEq, Int.reduceBNe, Int.reduceToNat, Int.reduceNeg, Int.reduceSub, Int.reduceAdd, Int.reduceMul, rr, lt_no]
    simp only [vv, ff, qa, qa0, clash, meets, execOp, evBox, opnd, qa1, bin, convHM, qa2, qa3, qa4, qa5, qa6, qa7, zOK, qa8, qa9, borL, isSl, qb, qb0, qb1, qb2, qb3, qb4, cellsOf, TD.agg, qb5, qb6, qb7, qb8, qb9, qc, qc0, qc1, setAt, qc2, qc3, qc4, getR, qc5, qc6, qc7, qc8, qc9, Array.toList, List.map, Option.isSome_none, bne_self_eq_false, reduceIte, reduceCtorEq, Nat.reduceEqDiff, Nat.reduceAdd, Nat.reduceMul, Nat.reduceSub, Nat.reduceBEq, Nat.reduceLeDiff, Int.reduceEq, Int.reduceLT, Int.reduceLE, Int.reduceGE, Int.reduceGT, Int.reduceBEq, Int.reduceBNe, Int.reduceToNat, Int.reduceNeg, Int.reduceSub, Int.reduceAdd, Int.reduceMul, finish, qf0, resOf, resa, qf1, qf2, qf3, keep, qf4, qf5, qf6, qe9, qf, rr]
end Go.Proofs.Ythgopooldcheeaa.VH.S
end

section
namespace Go.Proofs.Ythgopooldcheeaa.VH.S
open Go.Proofs
set_option maxRecDepth 100000
set_option maxHeartbeats 4000000
set_option linter.unusedSimpArgs false

theorem e10n (d : Nat) (tg : Tg) (cap : Option Nat) : evFun E (d+1) 10 [.val (.slice none 0 0), .sl tg 1 0 cap []] [] = some (vb true, []) := by
  refine evFun_body b10 ?_
  simp only [vv, cc, ff, uu, norm, qa, qa0, clash, meets, execOp, evBox, opnd, qa1, bin, convHM, qa2, qa3, qa4, qa5, qa6, qa7, zOK, qa8, qa9, borL, isSl, qb, qb0, qb1, qb2, qb3, qb4, cellsOf, TD.agg, qb5, qb6, qb7, qb8, qb9, qc, qc0, qc1, setAt, qc2, qc3, qc4, getR, qc5, qc6, qc7, qc8, qc9, Array.toList, List.map, Option.isSome_none, bne_self_eq_false, reduceIte, reduceCtorEq, Nat.reduceEqDiff, Nat.reduceAdd, Nat.reduceMul, Nat.reduceSub, Nat.reduceBEq, Nat.reduceLeDiff, Int.reduceEq, Int.reduceLT, Int.reduceLE, Int.reduceGE, Int.reduceGT, Int.reduceBEq, Int.reduceBNe, Int.reduceToNat, Int.reduceNeg, Int.reduceSub, Int.reduceAdd, Int.reduceMul, qd, qd0, qd1, qd2, qd3, qd4, qd5, qd6, qd7, qd8, qd9, qe, qe0, qe1, qe2, qe3, qe4, qe5, qe6, qe7, qe8, qe9, qf, finish, qf0, resOf, resa, qf1, qf2, qf3, keep, qf4, qf5, qf6, rr, Try.f10]
theorem e15n (d : Nat) (k : Int) : evFun E (d+1) 15 [.val (.slice none 0 0), vi k] [] = some (vi k, []) := by
  refine evFun_body b15 ?_
  simp only [vv, cc, ff, uu, norm, qa, qa0, clash, meets, execOp, evBox, opnd, qa1, bin, convHM, qa2, qa3, qa4, qa5, qa6, qa7, zOK, qa8, qa9, borL, isSl, qb, qb0, qb1, qb2, qb3, qb4, cellsOf, TD.agg, qb5, qb6, qb7, qb8, qb9, qc, qc0, qc1, setAt, qc2, qc3, qc4, getR, qc5, qc6, qc7, qc8, qc9, Array.toList, List.map, Option.isSome_none, bne_self_eq_false, reduceIte, reduceCtorEq, Nat.reduceEqDiff, Nat.reduceAdd, Nat.reduceMul, Nat.reduceSub, Nat.reduceBEq, Nat.reduceLeDiff, Int.reduceEq, Int.reduceLT, Int.reduceLE, Int.reduceGE, Int.reduceGT, Int.reduceBEq, Int.reduceBNe, Int.reduceToNat, Int.reduceNeg, Int.reduceSub, Int.reduceAdd, Int.reduceMul, qd, qd0, qd1, qd2, qd3, qd4, qd5, qd6, qd7, qd8, qd9, qe, qe0, qe1, qe2, qe3, qe4, qe5, qe6, qe7, qe8, qe9, qf, finish, qf0, resOf, resa, qf1, qf2, qf3, keep, qf4, qf5, qf6, rr, Try.f15]
theorem e16n (d : Nat) (k : Int) : evFun E (d+1) 16 [.val (.slice none 0 0), vi k] [] = some (vi k, []) := by
  refine evFun_body b16 ?_
  simp only [vv, cc, ff, uu, norm, qa, qa0, clash, meets, execOp, evBox, opnd, qa1, bin, convHM, qa2, qa3, qa4, qa5, qa6, qa7, zOK, qa8, qa9, borL, isSl, qb, qb0, qb1, qb2, qb3, qb4, cellsOf, TD.agg, qb5, qb6, qb7, qb8, qb9, qc, qc0, qc1, setAt, qc2, qc3, qc4, getR, qc5, qc6, qc7, qc8, qc9, Array.toList, List.map, Option.isSome_none, bne_self_eq_false, reduceIte, reduceCtorEq, Nat.reduceEqDiff, Nat.reduceAdd, Nat.reduceMul, Nat.reduceSub, Nat.reduceBEq, Nat.reduceLeDiff, Int.reduceEq, Int.reduceLT, Int.reduceLE, Int.reduceGE, Int.reduceGT, Int.reduceBEq, Int.reduceBNe, Int.reduceToNat, Int.reduceNeg, Int.reduceSub, Int.reduceAdd, Int.reduceMul, qd, qd0, qd1, qd2, qd3, qd4, qd5, qd6, qd7, qd8, qd9, qe, qe0, qe1, qe2, qe3, qe4, qe5, qe6, qe7, qe8, qe9, qf, finish, qf0, resOf, resa, qf1, qf2, qf3, keep, qf4, qf5, qf6, rr, Try.f16]
end Go.Proofs.Ythgopooldcheeaa.VH.S
end

section
namespace Go.Proofs.Ythgopooldcheeaa.VH.S
open Go.Proofs
set_option maxRecDepth 100000
set_option maxHeartbeats 4000000
set_option linter.unusedSimpArgs false

/- What is known, for rows written in any way. -/
theorem q25 (d : Nat) (tg : Tg) (cap : Option Nat) (n : Nat) (cs : List AV) (hb : isK .u8 cs = true) (hn : cs.length = n) (hl : n ≤ 549755813888) : evFun E (d+1) 25 [.sl tg 1 n cap cs] [] = some (.ref 0 [] 1 0 n (some n), [some cs]) := by
  subst hn
  have := e25 d tg cap (un cs) (by rw [un_len]; exact hl)
  rw [un_len, ← isK_get hb] at this; exact this
theorem q10 (d : Nat) (tg tg' : Tg) (cap cap' : Option Nat) (n m : Nat) (a b : List AV) (ha : isK .u8 a = true) (hb : isK .u8 b = true) (hn : a.length = n) (hm : b.length = m) (hl : n ≤ 549755813888) : evFun E (d+1) 10 [.sl tg 1 n cap a, .sl tg' 1 m cap' b] [] = some (vb (decide (un a = un b)), []) := by
  subst hn; subst hm
  have := e10 d tg tg' cap cap' (un a) (un b) (by rw [un_len]; exact hl)
  rw [un_len, un_len, ← isK_get ha, ← isK_get hb] at this; exact this
theorem q43 (d : Nat) (tg : Tg) (cap : Option Nat) (n : Nat) (cs : List AV) (hk : isK .u8 cs = true) (hn : cs.length = n) (hl : n ≤ 549755813888) : evFun E (d+1) 43 [.sl tg 1 n cap cs] [] = some (.ref 0 [] 1 0 n (capK (some 0) n), [some cs]) := by
  subst hn
  refine evFun_body b43 ?_
  have e1 : cs.any isSl = false := by rw [isK_get hk]; exact anySl_iv _ _
  simp only [vv, cc, qa, qa0, clash, meets, execOp, evBox, opnd, qa1, bin, convHM, qa2, qa3, qa4, qa5, qa6, qa7, zOK, qa8, qa9, borL, isSl, qb, qb0, qb1, qb2, qb3, qb4, cellsOf, TD.agg, qb5, qb6, qb7, qb8, qb9, qc, qc0, qc1, setAt, qc2, qc3, qc4, getR, qc5, qc6, qc7, qc8, qc9, Array.toList, List.map, Option.isSome_none, bne_self_eq_false, reduceIte, reduceCtorEq, Nat.reduceEqDiff, Nat.reduceAdd, Nat.reduceMul, Nat.reduceSub, Nat.reduceBEq, Nat.reduceLeDiff, Int.reduceEq, Int.reduceLT, Int.reduceLE, Int.reduceGE, Int.reduceGT, Int.reduceBEq, Int.reduceBNe, Int.reduceToNat, Int.reduceNeg, Int.reduceSub, Int.reduceAdd, Int.reduceMul, qd, qd0, qd1, qd2, qd3, qd4, qd5, qd6, qd7, qd8, qd9, qe, qe0, qe1, qe2, qe3, qe4, qe5, qe6, qe7, qe8, qe9, qf, rr, Try.f43, e1, limN hl]
  have e2 : qf2 cs = true := by rw [isK_get hk]; exact noSnapL_iv _ _
  simp only [vv, ff, qa, qa0, clash, meets, execOp, evBox, opnd, qa1, bin, convHM, qa2, qa3, qa4, qa5, qa6, qa7, zOK, qa8, qa9, borL, isSl, qb, qb0, qb1, qb2, qb3, qb4, cellsOf, TD.agg, qb5, qb6, qb7, qb8, qb9, qc, qc0, qc1, setAt, qc2, qc3, qc4, getR, qc5, qc6, qc7, qc8, qc9, Array.toList, List.map, Option.isSome_none, bne_self_eq_false, reduceIte, reduceCtorEq, Nat.reduceEqDiff, Nat.reduceAdd, Nat.reduceMul, Nat.reduceSub, Nat.reduceBEq, Nat.reduceLeDiff, Int.reduceEq, Int.reduceLT, Int.reduceLE, Int.reduceGE, Int.reduceGT, Int.reduceBEq, Int.reduceBNe, Int.reduceToNat, Int.reduceNeg, Int.reduceSub, Int.reduceAdd, Int.reduceMul, finish, qf0, resOf, resa, qf1, qf2, qf3, keep, qf4, qf5, qf6, qe9, qf, rr, e2]
end Go.Proofs.Ythgopooldcheeaa.VH.S
end

section
namespace Go.Proofs.Ythgopooldcheeaa.VH.S
open Go.Proofs
set_option maxRecDepth 100000
set_option maxHeartbeats 8000000
set_option linter.unusedSimpArgs false

/- Products of bytes. -/
/- reducible -/
theorem w8_nat {x : Nat} (h : x < 256) : IntKind.u8.wrap (x : Int) = x := by rw [IntKind.wrap_u8]; omega
theorem e51 (d : Nat) (a b : Nat) (ha : a < 256) (hb : b < 256) : evFun E (d+1) 51 [iv .u8 a, iv .u8 b] [] = some (iv .u8 (gm a b : Nat), []) := by
  refine evFun_body b51 ?_
  (repeat' (first | simp (maxDischargeDepth := 8) only [go_sem, rr, reduceIte, reduceCtorEq, Nat.reduceEqDiff, Nat.reduceAdd, Nat.reduceMul, Nat.reduceSub, Nat.reduceBEq, Nat.reduceLeDiff, Int.reduceEq, Int.reduceLT, Int.reduceLE, Int.reduceGE, Int.reduceGT, Int.reduceBEq, Int.reduceBNe, Int.reduceToNat, Int.reduceNeg, Int.reduceSub, Int.reduceAdd, Int.reduceMul, Try.f51] | (with_reducible refine qg9 ?_ ?_; focus (first | (simp (maxDischargeDepth := 8) only [bb, kk]; done) | kernel_rfl)) | ((with_reducible first | refine qf7 ?_ ?_ | refine qf8 ?_ ?_ | refine qf9 ?_ ?_ | refine qg ?_ ?_ | refine qg0 ?_ ?_ | refine qg1 ?_ ?_ | refine qg2 ?_ ?_); focus (first | with_reducible assumption | omega | (simp only [bz]; omega))) | ((with_reducible first | refine qg3 ?_ ?_ | refine qg4 ?_ ?_ | refine qg5 ?_ ?_); focus (first | with_reducible assumption | omega | (simp only [bz]; omega))) | ((with_reducible first | refine g1_u8w ?_ ?_ | refine qg7 ?_ ?_); (focus ((repeat' (with_reducible apply And.intro)) <;> (first | with_reducible assumption | omega | (simp only [bz]; omega) | (simp (maxDischargeDepth := 8) only [bb]; done)))); intro _)))
  have h8 := gbl_le hb
  refine loop_go (fun i => {T := tp [(5, vi (gO a b i : Nat)), (6, vi (gX a i : Nat)), (7, vi (b / 2 ^ i : Nat))], H := hp [], nx := 0}) (gbl 8 b) ?_ (lt_LF (by omega)) (fun i hi Kn hK => ?_) (fun Kn => ?_)
  · simp only [vv, ff, norm, Array.toList, List.map, Option.isSome_none, bne_self_eq_false, reduceIte, reduceCtorEq, Nat.reduceEqDiff, Nat.reduceAdd, Nat.reduceMul, Nat.reduceSub, Nat.reduceBEq, Nat.reduceLeDiff, Int.reduceEq, Int.reduceLT, Int.reduceLE, Int.reduceGE, Int.reduceGT, Int.reduceBEq, Int.reduceBNe, Int.reduceToNat, Int.reduceNeg, Int.reduceSub, Int.reduceAdd, Int.reduceMul, finish, qf0, resOf, resa, qf1, qf2, qf3, keep, qf4, qf5, qf6, qe9, qf, gO, gX, Nat.pow_zero, Nat.div_one, Int.natCast_zero]
  · have hp0 := gbl_pos hb hi
    have hy : b / 2 ^ i < 256 := Nat.lt_of_le_of_lt (Nat.div_le_self _ _) hb
    have ho := gO_lt b ha i
    have hx := gX_lt ha i
    have hs1 := shlI_one (x := gX a i) (by omega)
    have hs2 : shrI ((b / 2 ^ i : Nat) : Int) 1 = ((b / 2 ^ (i + 1) : Nat) : Int) := by
      rw [shrI_1, Nat.div_div_eq_div_mul, ← Nat.pow_succ]
    have han := andI_one (x := b / 2 ^ i) (by omega)
    have hxo := xorI_nat (x := gO a b i) (y := gX a i) (by omega) (by omega)
    have hx2 : xorI ((2 * gX a i : Nat) : Int) 285 = _ := xorI_nat (x := 2 * gX a i) (y := 285) (by omega) (by omega)
    have hn1 : gX a (i + 1) = xt (gX a i) := rfl
    by_cases hbit : b / 2 ^ i % 2 = 1
    · have hn2 := gO_yes (a := a) hbit
      rw [hbit] at han
      by_cases hle : 2 * gX a i ≤ 255
      · rw [xt_le hle] at hn1
        generalize b / 2 ^ i = y at *
        generalize gX a i = x at *
        generalize gO a b i = o at *
        (have fz := ga5 hs1 hs2 han hxo hx2; repeat' (first | simp (maxDischargeDepth := 8) only [go_sem, rr, reduceIte, reduceCtorEq, Nat.reduceEqDiff, Nat.reduceAdd, Nat.reduceMul, Nat.reduceSub, Nat.reduceBEq, Nat.reduceLeDiff, Int.reduceEq, Int.reduceLT, Int.reduceLE, Int.reduceGE, Int.reduceGT, Int.reduceBEq, Int.reduceBNe, Int.reduceToNat, Int.reduceNeg, Int.reduceSub, Int.reduceAdd, Int.reduceMul, fz, bin_xorI, bin_andI] | (with_reducible refine qg9 ?_ ?_; focus (first | (simp (maxDischargeDepth := 8) only [bb, kk, fz, bin_xorI, bin_andI]; done) | kernel_rfl)) | ((with_reducible first | refine qf7 ?_ ?_ | refine qf8 ?_ ?_ | refine qf9 ?_ ?_ | refine qg ?_ ?_ | refine qg0 ?_ ?_ | refine qg1 ?_ ?_ | refine qg2 ?_ ?_); focus (first | with_reducible assumption | omega | (simp only [bz, fz, bin_xorI, bin_andI]; omega))) | ((with_reducible first | refine qg3 ?_ ?_ | refine qg4 ?_ ?_ | refine qg5 ?_ ?_); focus (first | with_reducible assumption | omega | (simp only [bz, fz, bin_xorI, bin_andI]; omega))) | ((with_reducible first | refine g1_u8w ?_ ?_ | refine qg7 ?_ ?_); (focus ((repeat' (with_reducible apply And.intro)) <;> (first | with_reducible assumption | omega | (simp only [bz, fz, bin_xorI, bin_andI]; omega) | (simp (maxDischargeDepth := 8) only [bb, fz, bin_xorI, bin_andI]; done)))); intro _)))
        refine hK _ ?_
        simp only [vv, ff, norm, Array.toList, List.map, Option.isSome_none, bne_self_eq_false, reduceIte, reduceCtorEq, Nat.reduceEqDiff, Nat.reduceAdd, Nat.reduceMul, Nat.reduceSub, Nat.reduceBEq, Nat.reduceLeDiff, Int.reduceEq, Int.reduceLT, Int.reduceLE, Int.reduceGE, Int.reduceGT, Int.reduceBEq, Int.reduceBNe, Int.reduceToNat, Int.reduceNeg, Int.reduceSub, Int.reduceAdd, Int.reduceMul, finish, qf0, resOf, resa, qf1, qf2, qf3, keep, qf4, qf5, qf6, qe9, qf, hn1, hn2]
      · rw [xt_gt hle] at hn1
        generalize b / 2 ^ i = y at *
        generalize gX a i = x at *
        generalize gO a b i = o at *
        (have fz := ga5 hs1 hs2 han hxo hx2; repeat' (first | simp (maxDischargeDepth := 8) only [go_sem, rr, reduceIte, reduceCtorEq, Nat.reduceEqDiff, Nat.reduceAdd, Nat.reduceMul, Nat.reduceSub, Nat.reduceBEq, Nat.reduceLeDiff, Int.reduceEq, Int.reduceLT, Int.reduceLE, Int.reduceGE, Int.reduceGT, Int.reduceBEq, Int.reduceBNe, Int.reduceToNat, Int.reduceNeg, Int.reduceSub, Int.reduceAdd, Int.reduceMul, fz, bin_xorI, bin_andI] | (with_reducible refine qg9 ?_ ?_; focus (first | (simp (maxDischargeDepth := 8) only [bb, kk, fz, bin_xorI, bin_andI]; done) | kernel_rfl)) | ((with_reducible first | refine qf7 ?_ ?_ | refine qf8 ?_ ?_ | refine qf9 ?_ ?_ | refine qg ?_ ?_ | refine qg0 ?_ ?_ | refine qg1 ?_ ?_ | refine qg2 ?_ ?_); focus (first | with_reducible assumption | omega | (simp only [bz, fz, bin_xorI, bin_andI]; omega))) | ((with_reducible first | refine qg3 ?_ ?_ | refine qg4 ?_ ?_ | refine qg5 ?_ ?_); focus (first | with_reducible assumption | omega | (simp only [bz, fz, bin_xorI, bin_andI]; omega))) | ((with_reducible first | refine g1_u8w ?_ ?_ | refine qg7 ?_ ?_); (focus ((repeat' (with_reducible apply And.intro)) <;> (first | with_reducible assumption | omega | (simp only [bz, fz, bin_xorI, bin_andI]; omega) | (simp (maxDischargeDepth := 8) only [bb, fz, bin_xorI, bin_andI]; done)))); intro _)))
        refine hK _ ?_
        simp only [vv, ff, norm, Array.toList, List.map, Option.isSome_none, bne_self_eq_false, reduceIte, reduceCtorEq, Nat.reduceEqDiff, Nat.reduceAdd, Nat.reduceMul, Nat.reduceSub, Nat.reduceBEq, Nat.reduceLeDiff, Int.reduceEq, Int.reduceLT, Int.reduceLE, Int.reduceGE, Int.reduceGT, Int.reduceBEq, Int.reduceBNe, Int.reduceToNat, Int.reduceNeg, Int.reduceSub, Int.reduceAdd, Int.reduceMul, finish, qf0, resOf, resa, qf1, qf2, qf3, keep, qf4, qf5, qf6, qe9, qf, hn1, hn2]
    · have hn2 := gO_no (a := a) hbit
      have h0 : b / 2 ^ i % 2 = 0 := by omega
      rw [h0] at han
      by_cases hle : 2 * gX a i ≤ 255
      · rw [xt_le hle] at hn1
        generalize b / 2 ^ i = y at *
        generalize gX a i = x at *
        generalize gO a b i = o at *
        (have fz := ga5 hs1 hs2 han hxo hx2; repeat' (first | simp (maxDischargeDepth := 8) only [go_sem, rr, reduceIte, reduceCtorEq, Nat.reduceEqDiff, Nat.reduceAdd, Nat.reduceMul, Nat.reduceSub, Nat.reduceBEq, Nat.reduceLeDiff, Int.reduceEq, Int.reduceLT, Int.reduceLE, Int.reduceGE, Int.reduceGT, Int.reduceBEq, Int.reduceBNe, Int.reduceToNat, Int.reduceNeg, Int.reduceSub, Int.reduceAdd, Int.reduceMul, fz, bin_xorI, bin_andI] | (with_reducible refine qg9 ?_ ?_; focus (first | (simp (maxDischargeDepth := 8) only [bb, kk, fz, bin_xorI, bin_andI]; done) | kernel_rfl)) | ((with_reducible first | refine qf7 ?_ ?_ | refine qf8 ?_ ?_ | refine qf9 ?_ ?_ | refine qg ?_ ?_ | refine qg0 ?_ ?_ | refine qg1 ?_ ?_ | refine qg2 ?_ ?_); focus (first | with_reducible assumption | omega | (simp only [bz, fz, bin_xorI, bin_andI]; omega))) | ((with_reducible first | refine qg3 ?_ ?_ | refine qg4 ?_ ?_ | refine qg5 ?_ ?_); focus (first | with_reducible assumption | omega | (simp only [bz, fz, bin_xorI, bin_andI]; omega))) | ((with_reducible first | refine g1_u8w ?_ ?_ | refine qg7 ?_ ?_); (focus ((repeat' (with_reducible apply And.intro)) <;> (first | with_reducible assumption | omega | (simp only [bz, fz, bin_xorI, bin_andI]; omega) | (simp (maxDischargeDepth := 8) only [bb, fz, bin_xorI, bin_andI]; done)))); intro _)))
        refine hK _ ?_
        simp only [vv, ff, norm, Array.toList, List.map, Option.isSome_none, bne_self_eq_false, reduceIte, reduceCtorEq, Nat.reduceEqDiff, Nat.reduceAdd, Nat.reduceMul, Nat.reduceSub, Nat.reduceBEq, Nat.reduceLeDiff, Int.reduceEq, Int.reduceLT, Int.reduceLE, Int.reduceGE, Int.reduceGT, Int.reduceBEq, Int.reduceBNe, Int.reduceToNat, Int.reduceNeg, Int.reduceSub, Int.reduceAdd, Int.reduceMul, finish, qf0, resOf, resa, qf1, qf2, qf3, keep, qf4, qf5, qf6, qe9, qf, hn1, hn2]
      · rw [xt_gt hle] at hn1
        generalize b / 2 ^ i = y at *
        generalize gX a i = x at *
        generalize gO a b i = o at *
        (have fz := ga5 hs1 hs2 han hxo hx2; repeat' (first | simp (maxDischargeDepth := 8) only [go_sem, rr, reduceIte, reduceCtorEq, Nat.reduceEqDiff, Nat.reduceAdd, Nat.reduceMul, Nat.reduceSub, Nat.reduceBEq, Nat.reduceLeDiff, Int.reduceEq, Int.reduceLT, Int.reduceLE, Int.reduceGE, Int.reduceGT, Int.reduceBEq, Int.reduceBNe, Int.reduceToNat, Int.reduceNeg, Int.reduceSub, Int.reduceAdd, Int.reduceMul, fz, bin_xorI, bin_andI] | (with_reducible refine qg9 ?_ ?_; focus (first | (simp (maxDischargeDepth := 8) only [bb, kk, fz, bin_xorI, bin_andI]; done) | kernel_rfl)) | ((with_reducible first | refine qf7 ?_ ?_ | refine qf8 ?_ ?_ | refine qf9 ?_ ?_ | refine qg ?_ ?_ | refine qg0 ?_ ?_ | refine qg1 ?_ ?_ | refine qg2 ?_ ?_); focus (first | with_reducible assumption | omega | (simp only [bz, fz, bin_xorI, bin_andI]; omega))) | ((with_reducible first | refine qg3 ?_ ?_ | refine qg4 ?_ ?_ | refine qg5 ?_ ?_); focus (first | with_reducible assumption | omega | (simp only [bz, fz, bin_xorI, bin_andI]; omega))) | ((with_reducible first | refine g1_u8w ?_ ?_ | refine qg7 ?_ ?_); (focus ((repeat' (with_reducible apply And.intro)) <;> (first | with_reducible assumption | omega | (simp only [bz, fz, bin_xorI, bin_andI]; omega) | (simp (maxDischargeDepth := 8) only [bb, fz, bin_xorI, bin_andI]; done)))); intro _)))
        refine hK _ ?_
        simp only [vv, ff, norm, Array.toList, List.map, Option.isSome_none, bne_self_eq_false, reduceIte, reduceCtorEq, Nat.reduceEqDiff, Nat.reduceAdd, Nat.reduceMul, Nat.reduceSub, Nat.reduceBEq, Nat.reduceLeDiff, Int.reduceEq, Int.reduceLT, Int.reduceLE, Int.reduceGE, Int.reduceGT, Int.reduceBEq, Int.reduceBNe, Int.reduceToNat, Int.reduceNeg, Int.reduceSub, Int.reduceAdd, Int.reduceMul, finish, qf0, resOf, resa, qf1, qf2, qf3, keep, qf4, qf5, qf6, qe9, qf, hn1, hn2]
  · have hz := gbl_zero hb
    have hg := gm_gbl (a := a) hb
    have hlt := gm_lt b ha
    have hw := w8_nat hlt
    rw [hz, hg]
    (repeat' (first | simp (maxDischargeDepth := 8) only [go_sem, rr, reduceIte, reduceCtorEq, Nat.reduceEqDiff, Nat.reduceAdd, Nat.reduceMul, Nat.reduceSub, Nat.reduceBEq, Nat.reduceLeDiff, Int.reduceEq, Int.reduceLT, Int.reduceLE, Int.reduceGE, Int.reduceGT, Int.reduceBEq, Int.reduceBNe, Int.reduceToNat, Int.reduceNeg, Int.reduceSub, Int.reduceAdd, Int.reduceMul, hw] | (with_reducible refine qg9 ?_ ?_; focus (first | (simp (maxDischargeDepth := 8) only [bb, kk, hw]; done) | kernel_rfl)) | ((with_reducible first | refine qf7 ?_ ?_ | refine qf8 ?_ ?_ | refine qf9 ?_ ?_ | refine qg ?_ ?_ | refine qg0 ?_ ?_ | refine qg1 ?_ ?_ | refine qg2 ?_ ?_); focus (first | with_reducible assumption | omega | (simp only [bz, hw]; omega))) | ((with_reducible first | refine qg3 ?_ ?_ | refine qg4 ?_ ?_ | refine qg5 ?_ ?_); focus (first | with_reducible assumption | omega | (simp only [bz, hw]; omega))) | ((with_reducible first | refine g1_u8w ?_ ?_ | refine qg7 ?_ ?_); (focus ((repeat' (with_reducible apply And.intro)) <;> (first | with_reducible assumption | omega | (simp only [bz, hw]; omega) | (simp (maxDischargeDepth := 8) only [bb, hw]; done)))); intro _)))
theorem e35 (d : Nat) (a b : Nat) (ha : a < 256) (hb : b < 256) : evFun E (d+1) 35 [iv .u8 a, iv .u8 b] [] = some (iv .u8 (gm a b : Nat), []) := by
  refine evFun_body b35 ?_
  (repeat' (first | simp (maxDischargeDepth := 8) only [go_sem, rr, reduceIte, reduceCtorEq, Nat.reduceEqDiff, Nat.reduceAdd, Nat.reduceMul, Nat.reduceSub, Nat.reduceBEq, Nat.reduceLeDiff, Int.reduceEq, Int.reduceLT, Int.reduceLE, Int.reduceGE, Int.reduceGT, Int.reduceBEq, Int.reduceBNe, Int.reduceToNat, Int.reduceNeg, Int.reduceSub, Int.reduceAdd, Int.reduceMul, Try.f35] | (with_reducible refine qg9 ?_ ?_; focus (first | (simp (maxDischargeDepth := 8) only [bb, kk]; done) | kernel_rfl)) | ((with_reducible first | refine qf7 ?_ ?_ | refine qf8 ?_ ?_ | refine qf9 ?_ ?_ | refine qg ?_ ?_ | refine qg0 ?_ ?_ | refine qg1 ?_ ?_ | refine qg2 ?_ ?_); focus (first | with_reducible assumption | omega | (simp only [bz]; omega))) | ((with_reducible first | refine qg3 ?_ ?_ | refine qg4 ?_ ?_ | refine qg5 ?_ ?_); focus (first | with_reducible assumption | omega | (simp only [bz]; omega))) | ((with_reducible first | refine g1_u8w ?_ ?_ | refine qg7 ?_ ?_); (focus ((repeat' (with_reducible apply And.intro)) <;> (first | with_reducible assumption | omega | (simp only [bz]; omega) | (simp (maxDischargeDepth := 8) only [bb]; done)))); intro _)))
  refine loop_go (fun i => {T := tp [(1, iv .u8 b), (5, vi (gX a i : Nat)), (6, vi (gO a b i : Nat)), (7, vi i)], H := hp [], nx := 0}) 8 ?_ (lt_LF (by decide)) (fun i hi Kn hK => ?_) (fun Kn => ?_)
  · simp only [vv, ff, norm, Array.toList, List.map, Option.isSome_none, bne_self_eq_false, reduceIte, reduceCtorEq, Nat.reduceEqDiff, Nat.reduceAdd, Nat.reduceMul, Nat.reduceSub, Nat.reduceBEq, Nat.reduceLeDiff, Int.reduceEq, Int.reduceLT, Int.reduceLE, Int.reduceGE, Int.reduceGT, Int.reduceBEq, Int.reduceBNe, Int.reduceToNat, Int.reduceNeg, Int.reduceSub, Int.reduceAdd, Int.reduceMul, finish, qf0, resOf, resa, qf1, qf2, qf3, keep, qf4, qf5, qf6, qe9, qf, gO, gX, Int.natCast_zero]
  · have hy : b / 2 ^ i < 256 := Nat.lt_of_le_of_lt (Nat.div_le_self _ _) hb
    have ho := gO_lt b ha i
    have hx := gX_lt ha i
    have hs1 := shlI_one (x := gX a i) (by omega)
    have hs2 : shrI (b : Int) (i : Int) = ((b / 2 ^ i : Nat) : Int) := shrI_nat b (by omega)
    have han := andI_one (x := b / 2 ^ i) (by omega)
    have hxo := xorI_nat (x := gO a b i) (y := gX a i) (by omega) (by omega)
    have hx2 : xorI ((2 * gX a i : Nat) : Int) 285 = _ := xorI_nat (x := 2 * gX a i) (y := 285) (by omega) (by omega)
    have hn1 : gX a (i + 1) = xt (gX a i) := rfl
    by_cases hbit : b / 2 ^ i % 2 = 1
    · have hn2 := gO_yes (a := a) hbit
      rw [hbit] at han
      by_cases hle : 2 * gX a i ≤ 255
      · rw [xt_le hle] at hn1
        generalize b / 2 ^ i = y at *
        generalize gX a i = x at *
        generalize gO a b i = o at *
        (have fz := ga5 hs1 hs2 han hxo hx2; repeat' (first | simp (maxDischargeDepth := 8) only [go_sem, rr, reduceIte, reduceCtorEq, Nat.reduceEqDiff, Nat.reduceAdd, Nat.reduceMul, Nat.reduceSub, Nat.reduceBEq, Nat.reduceLeDiff, Int.reduceEq, Int.reduceLT, Int.reduceLE, Int.reduceGE, Int.reduceGT, Int.reduceBEq, Int.reduceBNe, Int.reduceToNat, Int.reduceNeg, Int.reduceSub, Int.reduceAdd, Int.reduceMul, fz, bin_xorI, bin_andI] | (with_reducible refine qg9 ?_ ?_; focus (first | (simp (maxDischargeDepth := 8) only [bb, kk, fz, bin_xorI, bin_andI]; done) | kernel_rfl)) | ((with_reducible first | refine qf7 ?_ ?_ | refine qf8 ?_ ?_ | refine qf9 ?_ ?_ | refine qg ?_ ?_ | refine qg0 ?_ ?_ | refine qg1 ?_ ?_ | refine qg2 ?_ ?_); focus (first | with_reducible assumption | omega | (simp only [bz, fz, bin_xorI, bin_andI]; omega))) | ((with_reducible first | refine qg3 ?_ ?_ | refine qg4 ?_ ?_ | refine qg5 ?_ ?_); focus (first | with_reducible assumption | omega | (simp only [bz, fz, bin_xorI, bin_andI]; omega))) | ((with_reducible first | refine g1_u8w ?_ ?_ | refine qg7 ?_ ?_); (focus ((repeat' (with_reducible apply And.intro)) <;> (first | with_reducible assumption | omega | (simp only [bz, fz, bin_xorI, bin_andI]; omega) | (simp (maxDischargeDepth := 8) only [bb, fz, bin_xorI, bin_andI]; done)))); intro _)))
        refine hK _ ?_
        simp only [vv, ff, norm, Array.toList, List.map, Option.isSome_none, bne_self_eq_false, reduceIte, reduceCtorEq, Nat.reduceEqDiff, Nat.reduceAdd, Nat.reduceMul, Nat.reduceSub, Nat.reduceBEq, Nat.reduceLeDiff, Int.reduceEq, Int.reduceLT, Int.reduceLE, Int.reduceGE, Int.reduceGT, Int.reduceBEq, Int.reduceBNe, Int.reduceToNat, Int.reduceNeg, Int.reduceSub, Int.reduceAdd, Int.reduceMul, finish, qf0, resOf, resa, qf1, qf2, qf3, keep, qf4, qf5, qf6, qe9, qf, Int.natCast_add, cst1, hn1, hn2]
      · rw [xt_gt hle] at hn1
        generalize b / 2 ^ i = y at *
        generalize gX a i = x at *
        generalize gO a b i = o at *
        (have fz := ga5 hs1 hs2 han hxo hx2; repeat' (first | simp (maxDischargeDepth := 8) only [go_sem, rr, reduceIte, reduceCtorEq, Nat.reduceEqDiff, Nat.reduceAdd, Nat.reduceMul, Nat.reduceSub, Nat.reduceBEq, Nat.reduceLeDiff, Int.reduceEq, Int.reduceLT, Int.reduceLE, Int.reduceGE, Int.reduceGT, Int.reduceBEq, Int.reduceBNe, Int.reduceToNat, Int.reduceNeg, Int.reduceSub, Int.reduceAdd, Int.reduceMul, fz, bin_xorI, bin_andI] | (with_reducible refine qg9 ?_ ?_; focus (first | (simp (maxDischargeDepth := 8) only [bb, kk, fz, bin_xorI, bin_andI]; done) | kernel_rfl)) | ((with_reducible first | refine qf7 ?_ ?_ | refine qf8 ?_ ?_ | refine qf9 ?_ ?_ | refine qg ?_ ?_ | refine qg0 ?_ ?_ | refine qg1 ?_ ?_ | refine qg2 ?_ ?_); focus (first | with_reducible assumption | omega | (simp only [bz, fz, bin_xorI, bin_andI]; omega))) | ((with_reducible first | refine qg3 ?_ ?_ | refine qg4 ?_ ?_ | refine qg5 ?_ ?_); focus (first | with_reducible assumption | omega | (simp only [bz, fz, bin_xorI, bin_andI]; omega))) | ((with_reducible first | refine g1_u8w ?_ ?_ | refine qg7 ?_ ?_); (focus ((repeat' (with_reducible apply And.intro)) <;> (first | with_reducible assumption | omega | (simp only [bz, fz, bin_xorI, bin_andI]; omega) | (simp (maxDischargeDepth := 8) only [bb, fz, bin_xorI, bin_andI]; done)))); intro _)))
        refine hK _ ?_
        simp only [vv, ff, norm, Array.toList, List.map, Option.isSome_none, bne_self_eq_false, reduceIte, reduceCtorEq, Nat.reduceEqDiff, Nat.reduceAdd, Nat.reduceMul, Nat.reduceSub, Nat.reduceBEq, Nat.reduceLeDiff, Int.reduceEq, Int.reduceLT, Int.reduceLE, Int.reduceGE, Int.reduceGT, Int.reduceBEq, Int.reduceBNe, Int.reduceToNat, Int.reduceNeg, Int.reduceSub, Int.reduceAdd, Int.reduceMul, finish, qf0, resOf, resa, qf1, qf2, qf3, keep, qf4, qf5, qf6, qe9, qf, Int.natCast_add, cst1, hn1, hn2]
    · have hn2 := gO_no (a := a) hbit
      have h0 : b / 2 ^ i % 2 = 0 := by omega
      rw [h0] at han
      by_cases hle : 2 * gX a i ≤ 255
      · rw [xt_le hle] at hn1
        generalize b / 2 ^ i = y at *
        generalize gX a i = x at *
        generalize gO a b i = o at *
        (have fz := ga5 hs1 hs2 han hxo hx2; repeat' (first | simp (maxDischargeDepth := 8) only [go_sem, rr, reduceIte, reduceCtorEq, Nat.reduceEqDiff, Nat.reduceAdd, Nat.reduceMul, Nat.reduceSub, Nat.reduceBEq, Nat.reduceLeDiff, Int.reduceEq, Int.reduceLT, Int.reduceLE, Int.reduceGE, Int.reduceGT, Int.reduceBEq, Int.reduceBNe, Int.reduceToNat, Int.reduceNeg, Int.reduceSub, Int.reduceAdd, Int.reduceMul, fz, bin_xorI, bin_andI] | (with_reducible refine qg9 ?_ ?_; focus (first | (simp (maxDischargeDepth := 8) only [bb, kk, fz, bin_xorI, bin_andI]; done) | kernel_rfl)) | ((with_reducible first | refine qf7 ?_ ?_ | refine qf8 ?_ ?_ | refine qf9 ?_ ?_ | refine qg ?_ ?_ | refine qg0 ?_ ?_ | refine qg1 ?_ ?_ | refine qg2 ?_ ?_); focus (first | with_reducible assumption | omega | (simp only [bz, fz, bin_xorI, bin_andI]; omega))) | ((with_reducible first | refine qg3 ?_ ?_ | refine qg4 ?_ ?_ | refine qg5 ?_ ?_); focus (first | with_reducible assumption | omega | (simp only [bz, fz, bin_xorI, bin_andI]; omega))) | ((with_reducible first | refine g1_u8w ?_ ?_ | refine qg7 ?_ ?_); (focus ((repeat' (with_reducible apply And.intro)) <;> (first | with_reducible assumption | omega | (simp only [bz, fz, bin_xorI, bin_andI]; omega) | (simp (maxDischargeDepth := 8) only [bb, fz, bin_xorI, bin_andI]; done)))); intro _)))
        refine hK _ ?_
        simp only [vv, ff, norm, Array.toList, List.map, Option.isSome_none, bne_self_eq_false, reduceIte, reduceCtorEq, Nat.reduceEqDiff, Nat.reduceAdd, Nat.reduceMul, Nat.reduceSub, Nat.reduceBEq, Nat.reduceLeDiff, Int.reduceEq, Int.reduceLT, Int.reduceLE, Int.reduceGE, Int.reduceGT, Int.reduceBEq, Int.reduceBNe, Int.reduceToNat, Int.reduceNeg, Int.reduceSub, Int.reduceAdd, Int.reduceMul, finish, qf0, resOf, resa, qf1, qf2, qf3, keep, qf4, qf5, qf6, qe9, qf, Int.natCast_add, cst1, hn1, hn2]
      · rw [xt_gt hle] at hn1
        generalize b / 2 ^ i = y at *
        generalize gX a i = x at *
        generalize gO a b i = o at *
        (have fz := ga5 hs1 hs2 han hxo hx2; repeat' (first | simp (maxDischargeDepth := 8) only [go_sem, rr, reduceIte, reduceCtorEq, Nat.reduceEqDiff, Nat.reduceAdd, Nat.reduceMul, Nat.reduceSub, Nat.reduceBEq, Nat.reduceLeDiff, Int.reduceEq, Int.reduceLT, Int.reduceLE, Int.reduceGE, Int.reduceGT, Int.reduceBEq, Int.reduceBNe, Int.reduceToNat, Int.reduceNeg, Int.reduceSub, Int.reduceAdd, Int.reduceMul, fz, bin_xorI, bin_andI] | (with_reducible refine qg9 ?_ ?_; focus (first | (simp (maxDischargeDepth := 8) only [bb, kk, fz, bin_xorI, bin_andI]; done) | kernel_rfl)) | ((with_reducible first | refine qf7 ?_ ?_ | refine qf8 ?_ ?_ | refine qf9 ?_ ?_ | refine qg ?_ ?_ | refine qg0 ?_ ?_ | refine qg1 ?_ ?_ | refine qg2 ?_ ?_); focus (first | with_reducible assumption | omega | (simp only [bz, fz, bin_xorI, bin_andI]; omega))) | ((with_reducible first | refine qg3 ?_ ?_ | refine qg4 ?_ ?_ | refine qg5 ?_ ?_); focus (first | with_reducible assumption | omega | (simp only [bz, fz, bin_xorI, bin_andI]; omega))) | ((with_reducible first | refine g1_u8w ?_ ?_ | refine qg7 ?_ ?_); (focus ((repeat' (with_reducible apply And.intro)) <;> (first | with_reducible assumption | omega | (simp only [bz, fz, bin_xorI, bin_andI]; omega) | (simp (maxDischargeDepth := 8) only [bb, fz, bin_xorI, bin_andI]; done)))); intro _)))
        refine hK _ ?_
        simp only [vv, ff, norm, Array.toList, List.map, Option.isSome_none, bne_self_eq_false, reduceIte, reduceCtorEq, Nat.reduceEqDiff, Nat.reduceAdd, Nat.reduceMul, Nat.reduceSub, Nat.reduceBEq, Nat.reduceLeDiff, Int.reduceEq, Int.reduceLT, Int.reduceLE, Int.reduceGE, Int.reduceGT, Int.reduceBEq, Int.reduceBNe, Int.reduceToNat, Int.reduceNeg, Int.reduceSub, Int.reduceAdd, Int.reduceMul, finish, qf0, resOf, resa, qf1, qf2, qf3, keep, qf4, qf5, qf6, qe9, qf, Int.natCast_add, cst1, hn1, hn2]
  · have hg : gO a b 8 = gm a b := rfl
    have hlt := gm_lt b ha
    have hw := w8_nat hlt
    rw [hg]
    (repeat' (first | simp (maxDischargeDepth := 8) only [go_sem, rr, reduceIte, reduceCtorEq, Nat.reduceEqDiff, Nat.reduceAdd, Nat.reduceMul, Nat.reduceSub, Nat.reduceBEq, Nat.reduceLeDiff, Int.reduceEq, Int.reduceLT, Int.reduceLE, Int.reduceGE, Int.reduceGT, Int.reduceBEq, Int.reduceBNe, Int.reduceToNat, Int.reduceNeg, Int.reduceSub, Int.reduceAdd, Int.reduceMul, hw] | (with_reducible refine qg9 ?_ ?_; focus (first | (simp (maxDischargeDepth := 8) only [bb, kk, hw]; done) | kernel_rfl)) | ((with_reducible first | refine qf7 ?_ ?_ | refine qf8 ?_ ?_ | refine qf9 ?_ ?_ | refine qg ?_ ?_ | refine qg0 ?_ ?_ | refine qg1 ?_ ?_ | refine qg2 ?_ ?_); focus (first | with_reducible assumption | omega | (simp only [bz, hw]; omega))) | ((with_reducible first | refine qg3 ?_ ?_ | refine qg4 ?_ ?_ | refine qg5 ?_ ?_); focus (first | with_reducible assumption | omega | (simp only [bz, hw]; omega))) | ((with_reducible first | refine g1_u8w ?_ ?_ | refine qg7 ?_ ?_); (focus ((repeat' (with_reducible apply And.intro)) <;> (first | with_reducible assumption | omega | (simp only [bz, hw]; omega) | (simp (maxDischargeDepth := 8) only [bb, hw]; done)))); intro _)))
end Go.Proofs.Ythgopooldcheeaa.VH.S
end

section
namespace Go.Proofs.Ythgopooldcheeaa.VH.S
open Go.Proofs
set_option maxRecDepth 100000
set_option maxHeartbeats 8000000
set_option linter.unusedSimpArgs false

/- Weights of bytes. -/
/- reducible -/
theorem q51 (d : Nat) (a b : Int) (ha : 0 ≤ a ∧ a < 256) (hb : 0 ≤ b ∧ b < 256) : evFun E (d+1) 51 [iv .u8 a, iv .u8 b] [] = some (iv .u8 (m8 a b), []) := by
  have h := e51 d a.toNat b.toNat (toNat_lt8 ha) (toNat_lt8 hb)
  rw [Int.toNat_of_nonneg ha.1, Int.toNat_of_nonneg hb.1] at h
  exact h
theorem q35 (d : Nat) (a b : Int) (ha : 0 ≤ a ∧ a < 256) (hb : 0 ≤ b ∧ b < 256) : evFun E (d+1) 35 [iv .u8 a, iv .u8 b] [] = some (iv .u8 (m8 a b), []) := by
  have h := e35 d a.toNat b.toNat (toNat_lt8 ha) (toNat_lt8 hb)
  rw [Int.toNat_of_nonneg ha.1, Int.toNat_of_nonneg hb.1] at h
  exact h
theorem tm254 : (254 : Int).tmod 255 = 254 := by decide
theorem d254 : ∀ i, i < 8 → 0 < 254 / 2 ^ i := by decide
theorem e53 (d : Nat) (a : Nat) (ha : a < 256) (h0 : 0 < a) : evFun E (d+2) 53 [iv .u8 a, vi 254] [] = some (iv .u8 (po a 8 : Nat), []) := by
  refine evFun_body b53 ?_
  have ha0 : (a : Int) ≠ 0 := by omega
  (repeat' (first | simp (maxDischargeDepth := 8) only [go_sem, rr, reduceIte, reduceCtorEq, Nat.reduceEqDiff, Nat.reduceAdd, Nat.reduceMul, Nat.reduceSub, Nat.reduceBEq, Nat.reduceLeDiff, Int.reduceEq, Int.reduceLT, Int.reduceLE, Int.reduceGE, Int.reduceGT, Int.reduceBEq, Int.reduceBNe, Int.reduceToNat, Int.reduceNeg, Int.reduceSub, Int.reduceAdd, Int.reduceMul, tm254, Try.f53] | (with_reducible refine qg9 ?_ ?_; focus (first | (simp (maxDischargeDepth := 8) only [bb, kk, tm254]; done) | kernel_rfl)) | ((with_reducible first | refine qf7 ?_ ?_ | refine qf8 ?_ ?_ | refine qf9 ?_ ?_ | refine qg ?_ ?_ | refine qg0 ?_ ?_ | refine qg1 ?_ ?_ | refine qg2 ?_ ?_); focus (first | with_reducible assumption | omega | (simp only [bz, tm254]; omega))) | ((with_reducible first | refine qg3 ?_ ?_ | refine qg4 ?_ ?_ | refine qg5 ?_ ?_); focus (first | with_reducible assumption | omega | (simp only [bz, tm254]; omega))) | ((with_reducible first | refine g1_u8w ?_ ?_ | refine qg7 ?_ ?_); (focus ((repeat' (with_reducible apply And.intro)) <;> (first | with_reducible assumption | omega | (simp only [bz, tm254]; omega) | (simp (maxDischargeDepth := 8) only [bb, tm254]; done)))); intro _)))
  refine loop_go (fun i => {T := tp [(0, iv .u8 (pa a i : Nat)), (1, vi (254 / 2 ^ i : Nat)), (5, iv .u8 (po a i : Nat))], H := hp [], nx := 0}) 8 ?_ (lt_LF (by decide)) (fun i hi Kn hK => ?_) (fun Kn => ?_)
  · simp only [vv, ff, norm, Array.toList, List.map, Option.isSome_none, bne_self_eq_false, reduceIte, reduceCtorEq, Nat.reduceEqDiff, Nat.reduceAdd, Nat.reduceMul, Nat.reduceSub, Nat.reduceBEq, Nat.reduceLeDiff, Int.reduceEq, Int.reduceLT, Int.reduceLE, Int.reduceGE, Int.reduceGT, Int.reduceBEq, Int.reduceBNe, Int.reduceToNat, Int.reduceNeg, Int.reduceSub, Int.reduceAdd, Int.reduceMul, finish, qf0, resOf, resa, qf1, qf2, qf3, keep, qf4, qf5, qf6, qe9, qf, pa, po, Nat.pow_zero, Nat.div_one, Int.cast_ofNat_Int]
  · have hp0 := d254 i hi
    have hy : 254 / 2 ^ i < 256 := Nat.lt_of_le_of_lt (Nat.div_le_self _ _) (by decide)
    have l1 := pa_lt ha i
    have l2 := po_lt ha i
    have hs2 : shrI ((254 / 2 ^ i : Nat) : Int) 1 = ((254 / 2 ^ (i + 1) : Nat) : Int) := by
      rw [shrI_1, Nat.div_div_eq_div_mul, ← Nat.pow_succ]
    have han := andI_one (x := 254 / 2 ^ i) (by omega)
    have hn1 := pa_succ a i
    have hM1 := fun d => e51 d (po a i) (pa a i) l2 l1
    have hM2 := fun d => e51 d (pa a i) (pa a i) l1 l1
    by_cases hbit : 254 / 2 ^ i % 2 = 1
    · have hn2 := po_yes (a := a) hbit
      rw [hbit] at han
      generalize 254 / 2 ^ i = y at *
      generalize pa a i = x at *
      generalize po a i = o at *
      (have fz := ga4 hs2 han hM1 hM2; repeat' (first | simp (maxDischargeDepth := 8) only [go_sem, rr, reduceIte, reduceCtorEq, Nat.reduceEqDiff, Nat.reduceAdd, Nat.reduceMul, Nat.reduceSub, Nat.reduceBEq, Nat.reduceLeDiff, Int.reduceEq, Int.reduceLT, Int.reduceLE, Int.reduceGE, Int.reduceGT, Int.reduceBEq, Int.reduceBNe, Int.reduceToNat, Int.reduceNeg, Int.reduceSub, Int.reduceAdd, Int.reduceMul, fz, bin_andI] | (with_reducible refine qg9 ?_ ?_; focus (first | (simp (maxDischargeDepth := 8) only [bb, kk, fz, bin_andI]; done) | kernel_rfl)) | ((with_reducible first | refine qf7 ?_ ?_ | refine qf8 ?_ ?_ | refine qf9 ?_ ?_ | refine qg ?_ ?_ | refine qg0 ?_ ?_ | refine qg1 ?_ ?_ | refine qg2 ?_ ?_); focus (first | with_reducible assumption | omega | (simp only [bz, fz, bin_andI]; omega))) | ((with_reducible first | refine qg3 ?_ ?_ | refine qg4 ?_ ?_ | refine qg5 ?_ ?_); focus (first | with_reducible assumption | omega | (simp only [bz, fz, bin_andI]; omega))) | ((with_reducible first | refine g1_u8w ?_ ?_ | refine qg7 ?_ ?_); (focus ((repeat' (with_reducible apply And.intro)) <;> (first | with_reducible assumption | omega | (simp only [bz, fz, bin_andI]; omega) | (simp (maxDischargeDepth := 8) only [bb, fz, bin_andI]; done)))); intro _)))
      refine hK _ ?_
      simp only [vv, ff, norm, Array.toList, List.map, Option.isSome_none, bne_self_eq_false, reduceIte, reduceCtorEq, Nat.reduceEqDiff, Nat.reduceAdd, Nat.reduceMul, Nat.reduceSub, Nat.reduceBEq, Nat.reduceLeDiff, Int.reduceEq, Int.reduceLT, Int.reduceLE, Int.reduceGE, Int.reduceGT, Int.reduceBEq, Int.reduceBNe, Int.reduceToNat, Int.reduceNeg, Int.reduceSub, Int.reduceAdd, Int.reduceMul, finish, qf0, resOf, resa, qf1, qf2, qf3, keep, qf4, qf5, qf6, qe9, qf, hn1, hn2]
    · have h0 : 254 / 2 ^ i % 2 = 0 := by omega
      have hn2 := po_no (a := a) h0
      rw [h0] at han
      generalize 254 / 2 ^ i = y at *
      generalize pa a i = x at *
      generalize po a i = o at *
      (have fz := ga4 hs2 han hM1 hM2; repeat' (first | simp (maxDischargeDepth := 8) only [go_sem, rr, reduceIte, reduceCtorEq, Nat.reduceEqDiff, Nat.reduceAdd, Nat.reduceMul, Nat.reduceSub, Nat.reduceBEq, Nat.reduceLeDiff, Int.reduceEq, Int.reduceLT, Int.reduceLE, Int.reduceGE, Int.reduceGT, Int.reduceBEq, Int.reduceBNe, Int.reduceToNat, Int.reduceNeg, Int.reduceSub, Int.reduceAdd, Int.reduceMul, fz, bin_andI] | (with_reducible refine qg9 ?_ ?_; focus (first | (simp (maxDischargeDepth := 8) only [bb, kk, fz, bin_andI]; done) | kernel_rfl)) | ((with_reducible first | refine qf7 ?_ ?_ | refine qf8 ?_ ?_ | refine qf9 ?_ ?_ | refine qg ?_ ?_ | refine qg0 ?_ ?_ | refine qg1 ?_ ?_ | refine qg2 ?_ ?_); focus (first | with_reducible assumption | omega | (simp only [bz, fz, bin_andI]; omega))) | ((with_reducible first | refine qg3 ?_ ?_ | refine qg4 ?_ ?_ | refine qg5 ?_ ?_); focus (first | with_reducible assumption | omega | (simp only [bz, fz, bin_andI]; omega))) | ((with_reducible first | refine g1_u8w ?_ ?_ | refine qg7 ?_ ?_); (focus ((repeat' (with_reducible apply And.intro)) <;> (first | with_reducible assumption | omega | (simp only [bz, fz, bin_andI]; omega) | (simp (maxDischargeDepth := 8) only [bb, fz, bin_andI]; done)))); intro _)))
      refine hK _ ?_
      simp only [vv, ff, norm, Array.toList, List.map, Option.isSome_none, bne_self_eq_false, reduceIte, reduceCtorEq, Nat.reduceEqDiff, Nat.reduceAdd, Nat.reduceMul, Nat.reduceSub, Nat.reduceBEq, Nat.reduceLeDiff, Int.reduceEq, Int.reduceLT, Int.reduceLE, Int.reduceGE, Int.reduceGT, Int.reduceBEq, Int.reduceBNe, Int.reduceToNat, Int.reduceNeg, Int.reduceSub, Int.reduceAdd, Int.reduceMul, finish, qf0, resOf, resa, qf1, qf2, qf3, keep, qf4, qf5, qf6, qe9, qf, hn1, hn2]
  · have hz : 254 / 2 ^ 8 = 0 := by decide
    rw [hz]
    (repeat' (first | simp (maxDischargeDepth := 8) only [go_sem, rr, reduceIte, reduceCtorEq, Nat.reduceEqDiff, Nat.reduceAdd, Nat.reduceMul, Nat.reduceSub, Nat.reduceBEq, Nat.reduceLeDiff, Int.reduceEq, Int.reduceLT, Int.reduceLE, Int.reduceGE, Int.reduceGT, Int.reduceBEq, Int.reduceBNe, Int.reduceToNat, Int.reduceNeg, Int.reduceSub, Int.reduceAdd, Int.reduceMul] | (with_reducible refine qg9 ?_ ?_; focus (first | (simp (maxDischargeDepth := 8) only [bb, kk]; done) | kernel_rfl)) | ((with_reducible first | refine qf7 ?_ ?_ | refine qf8 ?_ ?_ | refine qf9 ?_ ?_ | refine qg ?_ ?_ | refine qg0 ?_ ?_ | refine qg1 ?_ ?_ | refine qg2 ?_ ?_); focus (first | with_reducible assumption | omega | (simp only [bz]; omega))) | ((with_reducible first | refine qg3 ?_ ?_ | refine qg4 ?_ ?_ | refine qg5 ?_ ?_); focus (first | with_reducible assumption | omega | (simp only [bz]; omega))) | ((with_reducible first | refine g1_u8w ?_ ?_ | refine qg7 ?_ ?_); (focus ((repeat' (with_reducible apply And.intro)) <;> (first | with_reducible assumption | omega | (simp only [bz]; omega) | (simp (maxDischargeDepth := 8) only [bb]; done)))); intro _)))
theorem e46 (d : Nat) (a : Nat) (ha : a < 256) : evFun E (d+2) 46 [iv .u8 a, vi 254] [] = some (iv .u8 (po a 8 : Nat), []) := by
  rw [← pw_po ha]
  refine evFun_body b46 ?_
  (repeat' (first | simp (maxDischargeDepth := 8) only [go_sem, rr, reduceIte, reduceCtorEq, Nat.reduceEqDiff, Nat.reduceAdd, Nat.reduceMul, Nat.reduceSub, Nat.reduceBEq, Nat.reduceLeDiff, Int.reduceEq, Int.reduceLT, Int.reduceLE, Int.reduceGE, Int.reduceGT, Int.reduceBEq, Int.reduceBNe, Int.reduceToNat, Int.reduceNeg, Int.reduceSub, Int.reduceAdd, Int.reduceMul, Try.f46] | (with_reducible refine qg9 ?_ ?_; focus (first | (simp (maxDischargeDepth := 8) only [bb, kk]; done) | kernel_rfl)) | ((with_reducible first | refine qf7 ?_ ?_ | refine qf8 ?_ ?_ | refine qf9 ?_ ?_ | refine qg ?_ ?_ | refine qg0 ?_ ?_ | refine qg1 ?_ ?_ | refine qg2 ?_ ?_); focus (first | with_reducible assumption | omega | (simp only [bz]; omega))) | ((with_reducible first | refine qg3 ?_ ?_ | refine qg4 ?_ ?_ | refine qg5 ?_ ?_); focus (first | with_reducible assumption | omega | (simp only [bz]; omega))) | ((with_reducible first | refine g1_u8w ?_ ?_ | refine qg7 ?_ ?_); (focus ((repeat' (with_reducible apply And.intro)) <;> (first | with_reducible assumption | omega | (simp only [bz]; omega) | (simp (maxDischargeDepth := 8) only [bb]; done)))); intro _)))
  refine loop_go (fun i => {T := tp [(0, iv .u8 a), (1, vi 254), (5, iv .u8 (pw a i : Nat)), (6, vi i)], H := hp [], nx := 0}) 254 ?_ (lt_LF (by decide)) (fun i hi Kn hK => ?_) (fun Kn => ?_)
  · simp only [vv, ff, norm, Array.toList, List.map, Option.isSome_none, bne_self_eq_false, reduceIte, reduceCtorEq, Nat.reduceEqDiff, Nat.reduceAdd, Nat.reduceMul, Nat.reduceSub, Nat.reduceBEq, Nat.reduceLeDiff, Int.reduceEq, Int.reduceLT, Int.reduceLE, Int.reduceGE, Int.reduceGT, Int.reduceBEq, Int.reduceBNe, Int.reduceToNat, Int.reduceNeg, Int.reduceSub, Int.reduceAdd, Int.reduceMul, finish, qf0, resOf, resa, qf1, qf2, qf3, keep, qf4, qf5, qf6, qe9, qf, pw, Int.natCast_zero, Int.cast_ofNat_Int]
  · have hn := pw_succ a i
    have hM := fun d => e35 d (pw a i) a (pw_lt ha i) ha
    generalize pw a i = o at *
    (repeat' (first | simp (maxDischargeDepth := 8) only [go_sem, rr, reduceIte, reduceCtorEq, Nat.reduceEqDiff, Nat.reduceAdd, Nat.reduceMul, Nat.reduceSub, Nat.reduceBEq, Nat.reduceLeDiff, Int.reduceEq, Int.reduceLT, Int.reduceLE, Int.reduceGE, Int.reduceGT, Int.reduceBEq, Int.reduceBNe, Int.reduceToNat, Int.reduceNeg, Int.reduceSub, Int.reduceAdd, Int.reduceMul, hM] | (with_reducible refine qg9 ?_ ?_; focus (first | (simp (maxDischargeDepth := 8) only [bb, kk, hM]; done) | kernel_rfl)) | ((with_reducible first | refine qf7 ?_ ?_ | refine qf8 ?_ ?_ | refine qf9 ?_ ?_ | refine qg ?_ ?_ | refine qg0 ?_ ?_ | refine qg1 ?_ ?_ | refine qg2 ?_ ?_); focus (first | with_reducible assumption | omega | (simp only [bz, hM]; omega))) | ((with_reducible first | refine qg3 ?_ ?_ | refine qg4 ?_ ?_ | refine qg5 ?_ ?_); focus (first | with_reducible assumption | omega | (simp only [bz, hM]; omega))) | ((with_reducible first | refine g1_u8w ?_ ?_ | refine qg7 ?_ ?_); (focus ((repeat' (with_reducible apply And.intro)) <;> (first | with_reducible assumption | omega | (simp only [bz, hM]; omega) | (simp (maxDischargeDepth := 8) only [bb, hM]; done)))); intro _)))
    refine hK _ ?_
    simp only [vv, ff, norm, Array.toList, List.map, Option.isSome_none, bne_self_eq_false, reduceIte, reduceCtorEq, Nat.reduceEqDiff, Nat.reduceAdd, Nat.reduceMul, Nat.reduceSub, Nat.reduceBEq, Nat.reduceLeDiff, Int.reduceEq, Int.reduceLT, Int.reduceLE, Int.reduceGE, Int.reduceGT, Int.reduceBEq, Int.reduceBNe, Int.reduceToNat, Int.reduceNeg, Int.reduceSub, Int.reduceAdd, Int.reduceMul, finish, qf0, resOf, resa, qf1, qf2, qf3, keep, qf4, qf5, qf6, qe9, qf, hn, Int.natCast_add, cst1]
  · generalize pw a 254 = o
    (repeat' (first | simp (maxDischargeDepth := 8) only [go_sem, rr, reduceIte, reduceCtorEq, Nat.reduceEqDiff, Nat.reduceAdd, Nat.reduceMul, Nat.reduceSub, Nat.reduceBEq, Nat.reduceLeDiff, Int.reduceEq, Int.reduceLT, Int.reduceLE, Int.reduceGE, Int.reduceGT, Int.reduceBEq, Int.reduceBNe, Int.reduceToNat, Int.reduceNeg, Int.reduceSub, Int.reduceAdd, Int.reduceMul] | (with_reducible refine qg9 ?_ ?_; focus (first | (simp (maxDischargeDepth := 8) only [bb, kk]; done) | kernel_rfl)) | ((with_reducible first | refine qf7 ?_ ?_ | refine qf8 ?_ ?_ | refine qf9 ?_ ?_ | refine qg ?_ ?_ | refine qg0 ?_ ?_ | refine qg1 ?_ ?_ | refine qg2 ?_ ?_); focus (first | with_reducible assumption | omega | (simp only [bz]; omega))) | ((with_reducible first | refine qg3 ?_ ?_ | refine qg4 ?_ ?_ | refine qg5 ?_ ?_); focus (first | with_reducible assumption | omega | (simp only [bz]; omega))) | ((with_reducible first | refine g1_u8w ?_ ?_ | refine qg7 ?_ ?_); (focus ((repeat' (with_reducible apply And.intro)) <;> (first | with_reducible assumption | omega | (simp only [bz]; omega) | (simp (maxDischargeDepth := 8) only [bb]; done)))); intro _)))
theorem e52 (d : Nat) (a : Int) (ha : 0 ≤ a ∧ a < 256) : evFun E (d+3) 52 [iv .u8 a] [] = some (.tup [iv .u8 (v8 a), vb (decide (a ≠ 0))], []) := by
  refine evFun_body b52 ?_
  by_cases h0 : a = 0
  · subst h0
    have hv : v8 0 = 0 := rfl
    (repeat' (first | simp (maxDischargeDepth := 8) only [go_sem, rr, reduceIte, reduceCtorEq, Nat.reduceEqDiff, Nat.reduceAdd, Nat.reduceMul, Nat.reduceSub, Nat.reduceBEq, Nat.reduceLeDiff, Int.reduceEq, Int.reduceLT, Int.reduceLE, Int.reduceGE, Int.reduceGT, Int.reduceBEq, Int.reduceBNe, Int.reduceToNat, Int.reduceNeg, Int.reduceSub, Int.reduceAdd, Int.reduceMul, hv, Try.f52] | (with_reducible refine qg9 ?_ ?_; focus (first | (simp (maxDischargeDepth := 8) only [bb, kk, hv]; done) | kernel_rfl)) | ((with_reducible first | refine qf7 ?_ ?_ | refine qf8 ?_ ?_ | refine qf9 ?_ ?_ | refine qg ?_ ?_ | refine qg0 ?_ ?_ | refine qg1 ?_ ?_ | refine qg2 ?_ ?_); focus (first | with_reducible assumption | omega | (simp only [bz, hv]; omega))) | ((with_reducible first | refine qg3 ?_ ?_ | refine qg4 ?_ ?_ | refine qg5 ?_ ?_); focus (first | with_reducible assumption | omega | (simp only [bz, hv]; omega))) | ((with_reducible first | refine g1_u8w ?_ ?_ | refine qg7 ?_ ?_); (focus ((repeat' (with_reducible apply And.intro)) <;> (first | with_reducible assumption | omega | (simp only [bz, hv]; omega) | (simp (maxDischargeDepth := 8) only [bb, hv]; done)))); intro _)))
  · have hd : decide (a ≠ 0) = true := decide_eq_true h0
    have h := fun d => e53 d a.toNat (toNat_lt8 ha) (by omega)
    rw [Int.toNat_of_nonneg ha.1] at h
    have hv : ((po a.toNat 8 : Nat) : Int) = v8 a := rfl
    rw [hv] at h
    (have fz := ga2 h hd; repeat' (first | simp (maxDischargeDepth := 8) only [go_sem, rr, reduceIte, reduceCtorEq, Nat.reduceEqDiff, Nat.reduceAdd, Nat.reduceMul, Nat.reduceSub, Nat.reduceBEq, Nat.reduceLeDiff, Int.reduceEq, Int.reduceLT, Int.reduceLE, Int.reduceGE, Int.reduceGT, Int.reduceBEq, Int.reduceBNe, Int.reduceToNat, Int.reduceNeg, Int.reduceSub, Int.reduceAdd, Int.reduceMul, fz, Try.f52] | (with_reducible refine qg9 ?_ ?_; focus (first | (simp (maxDischargeDepth := 8) only [bb, kk, fz]; done) | kernel_rfl)) | ((with_reducible first | refine qf7 ?_ ?_ | refine qf8 ?_ ?_ | refine qf9 ?_ ?_ | refine qg ?_ ?_ | refine qg0 ?_ ?_ | refine qg1 ?_ ?_ | refine qg2 ?_ ?_); focus (first | with_reducible assumption | omega | (simp only [bz, fz]; omega))) | ((with_reducible first | refine qg3 ?_ ?_ | refine qg4 ?_ ?_ | refine qg5 ?_ ?_); focus (first | with_reducible assumption | omega | (simp only [bz, fz]; omega))) | ((with_reducible first | refine g1_u8w ?_ ?_ | refine qg7 ?_ ?_); (focus ((repeat' (with_reducible apply And.intro)) <;> (first | with_reducible assumption | omega | (simp only [bz, fz]; omega) | (simp (maxDischargeDepth := 8) only [bb, fz]; done)))); intro _)))
theorem e36 (d : Nat) (a : Int) (ha : 0 ≤ a ∧ a < 256) : evFun E (d+3) 36 [iv .u8 a] [] = some (.tup [iv .u8 (v8 a), vb (decide (a ≠ 0))], []) := by
  refine evFun_body b36 ?_
  by_cases h0 : a = 0
  · subst h0
    have hv : v8 0 = 0 := rfl
    (repeat' (first | simp (maxDischargeDepth := 8) only [go_sem, rr, reduceIte, reduceCtorEq, Nat.reduceEqDiff, Nat.reduceAdd, Nat.reduceMul, Nat.reduceSub, Nat.reduceBEq, Nat.reduceLeDiff, Int.reduceEq, Int.reduceLT, Int.reduceLE, Int.reduceGE, Int.reduceGT, Int.reduceBEq, Int.reduceBNe, Int.reduceToNat, Int.reduceNeg, Int.reduceSub, Int.reduceAdd, Int.reduceMul, hv, Try.f36] | (with_reducible refine qg9 ?_ ?_; focus (first | (simp (maxDischargeDepth := 8) only [bb, kk, hv]; done) | kernel_rfl)) | ((with_reducible first | refine qf7 ?_ ?_ | refine qf8 ?_ ?_ | refine qf9 ?_ ?_ | refine qg ?_ ?_ | refine qg0 ?_ ?_ | refine qg1 ?_ ?_ | refine qg2 ?_ ?_); focus (first | with_reducible assumption | omega | (simp only [bz, hv]; omega))) | ((with_reducible first | refine qg3 ?_ ?_ | refine qg4 ?_ ?_ | refine qg5 ?_ ?_); focus (first | with_reducible assumption | omega | (simp only [bz, hv]; omega))) | ((with_reducible first | refine g1_u8w ?_ ?_ | refine qg7 ?_ ?_); (focus ((repeat' (with_reducible apply And.intro)) <;> (first | with_reducible assumption | omega | (simp only [bz, hv]; omega) | (simp (maxDischargeDepth := 8) only [bb, hv]; done)))); intro _)))
  · have hd : decide (a ≠ 0) = true := decide_eq_true h0
    have h := fun d => e46 d a.toNat (toNat_lt8 ha)
    rw [Int.toNat_of_nonneg ha.1] at h
    have hv : ((po a.toNat 8 : Nat) : Int) = v8 a := rfl
    rw [hv] at h
    (have fz := ga2 h hd; repeat' (first | simp (maxDischargeDepth := 8) only [go_sem, rr, reduceIte, reduceCtorEq, Nat.reduceEqDiff, Nat.reduceAdd, Nat.reduceMul, Nat.reduceSub, Nat.reduceBEq, Nat.reduceLeDiff, Int.reduceEq, Int.reduceLT, Int.reduceLE, Int.reduceGE, Int.reduceGT, Int.reduceBEq, Int.reduceBNe, Int.reduceToNat, Int.reduceNeg, Int.reduceSub, Int.reduceAdd, Int.reduceMul, fz, Try.f36] | (with_reducible refine qg9 ?_ ?_; focus (first | (simp (maxDischargeDepth := 8) only [bb, kk, fz]; done) | kernel_rfl)) | ((with_reducible first | refine qf7 ?_ ?_ | refine qf8 ?_ ?_ | refine qf9 ?_ ?_ | refine qg ?_ ?_ | refine qg0 ?_ ?_ | refine qg1 ?_ ?_ | refine qg2 ?_ ?_); focus (first | with_reducible assumption | omega | (simp only [bz, fz]; omega))) | ((with_reducible first | refine qg3 ?_ ?_ | refine qg4 ?_ ?_ | refine qg5 ?_ ?_); focus (first | with_reducible assumption | omega | (simp only [bz, fz]; omega))) | ((with_reducible first | refine g1_u8w ?_ ?_ | refine qg7 ?_ ?_); (focus ((repeat' (with_reducible apply And.intro)) <;> (first | with_reducible assumption | omega | (simp only [bz, fz]; omega) | (simp (maxDischargeDepth := 8) only [bb, fz]; done)))); intro _)))
def wS (X : List Int) (x a : Int) (i : Nat) : Nat → Int × Int
  | 0 => (1, 1)
  | k + 1 => if i = k then wS X x a i k else (m8 (wS X x a i k).1 (x8 x (at0 X k)), m8 (wS X x a i k).2 (x8 a (at0 X k)))
def wt (X : List Int) (x : Int) (i : Nat) : Int := m8 (wS X x (at0 X i) i X.length).1 (v8 (wS X x (at0 X i) i X.length).2)
def wL (X : List Int) (x : Int) (i : Nat) : List Int := (List.range i).map (wt X x)
theorem wL_len (X : List Int) (x : Int) (i : Nat) : (wL X x i).length = i := by simp [wL]
theorem wL_succ (X : List Int) (x : Int) (i : Nat) : (wL X x i).map (iv .u8) ++ [iv .u8 (wt X x i)] = (wL X x (i + 1)).map (iv .u8) := by simp [wL, List.range_succ]
theorem wS_b {X : List Int} (hX : B8 X) {x a : Int} (i : Nat) : ∀ k, (0 ≤ (wS X x a i k).1 ∧ (wS X x a i k).1 < 256) ∧ (0 ≤ (wS X x a i k).2 ∧ (wS X x a i k).2 < 256)
  | 0 => by simp [wS]
  | k + 1 => by
    rw [wS]
    split
    · exact wS_b hX i k
    · exact ⟨m8_b _ (wS_b hX i k).1, m8_b _ (wS_b hX i k).2⟩
theorem wt_b {X : List Int} (hX : B8 X) (x : Int) (i : Nat) : 0 ≤ wt X x i ∧ wt X x i < 256 := m8_b _ (wS_b hX i _).1
def capG (i : Nat) : Option Nat := if i = 0 then some 0 else none
theorem capG_zero : capG 0 = some 0 := rfl
theorem capG_succ (i : Nat) : capG (i + 1) = none := rfl
theorem capG_one (i : Nat) : capK (capG i) 1 = none := capK_pos Nat.one_pos
theorem e48 (d : Nat) (tg : Tg) (c : Option Nat) (cs : List AV) (n : Nat) (x : Int) (hk : isK .u8 cs = true) (hn : cs.length = n) (hb : B8 (un cs)) (hl : n ≤ 1000) (hx : 0 ≤ x ∧ x < 256) : evFun E (d+4) 48 [.sl tg 1 n c cs, iv .u8 x] [] = some (.ref 0 [] 1 0 n (capG n), [some ((wL (un cs) x n).map (iv .u8))]) := by
  refine evFun_body b48 ?_
  have hlu : (un cs).length = n := by rw [un_len, hn]
  (repeat' (first | simp (maxDischargeDepth := 8) only [go_sem, rr, reduceIte, reduceCtorEq, Nat.reduceEqDiff, Nat.reduceAdd, Nat.reduceMul, Nat.reduceSub, Nat.reduceBEq, Nat.reduceLeDiff, Int.reduceEq, Int.reduceLT, Int.reduceLE, Int.reduceGE, Int.reduceGT, Int.reduceBEq, Int.reduceBNe, Int.reduceToNat, Int.reduceNeg, Int.reduceSub, Int.reduceAdd, Int.reduceMul, Try.f48] | (with_reducible refine qg9 ?_ ?_; focus (first | (simp (maxDischargeDepth := 8) only [bb, kk]; done) | kernel_rfl)) | ((with_reducible first | refine qf7 ?_ ?_ | refine qf8 ?_ ?_ | refine qf9 ?_ ?_ | refine qg ?_ ?_ | refine qg0 ?_ ?_ | refine qg1 ?_ ?_ | refine qg2 ?_ ?_); focus (first | with_reducible assumption | omega | (simp only [bz]; omega))) | ((with_reducible first | refine qg3 ?_ ?_ | refine qg4 ?_ ?_ | refine qg5 ?_ ?_); focus (first | with_reducible assumption | omega | (simp only [bz]; omega))) | ((with_reducible first | refine g1_u8w ?_ ?_ | refine qg7 ?_ ?_); (focus ((repeat' (with_reducible apply And.intro)) <;> (first | with_reducible assumption | omega | (simp only [bz]; omega) | (simp (maxDischargeDepth := 8) only [bb]; done)))); intro _)))
  refine loop_go (fun i => {T := tp [(0, .sl tg 1 n c cs), (1, iv .u8 x), (5, .ref 0 [] 1 0 i (capG i)), (15, .sl tg 1 n c cs), (16, vi n), (17, vi i)], H := hp [some ((wL (un cs) x i).map (iv .u8))], nx := 1}) n ?_ (lt_LF (by omega)) (fun i hi Kn hK => ?_) (fun Kn => ?_)
  · simp only [vv, ff, norm, Array.toList, List.map, Option.isSome_none, bne_self_eq_false, reduceIte, reduceCtorEq, Nat.reduceEqDiff, Nat.reduceAdd, Nat.reduceMul, Nat.reduceSub, Nat.reduceBEq, Nat.reduceLeDiff, Int.reduceEq, Int.reduceLT, Int.reduceLE, Int.reduceGE, Int.reduceGT, Int.reduceBEq, Int.reduceBNe, Int.reduceToNat, Int.reduceNeg, Int.reduceSub, Int.reduceAdd, Int.reduceMul, finish, qf0, resOf, resa, qf1, qf2, qf3, keep, qf4, qf5, qf6, qe9, qf, Int.natCast_zero, capG_zero, wL, List.range_zero, List.map_nil]
  · have ha := hb.at0 i
    (have fz := ga3 hk hn hb; repeat' (first | simp (maxDischargeDepth := 8) only [go_sem, rr, reduceIte, reduceCtorEq, Nat.reduceEqDiff, Nat.reduceAdd, Nat.reduceMul, Nat.reduceSub, Nat.reduceBEq, Nat.reduceLeDiff, Int.reduceEq, Int.reduceLT, Int.reduceLE, Int.reduceGE, Int.reduceGT, Int.reduceBEq, Int.reduceBNe, Int.reduceToNat, Int.reduceNeg, Int.reduceSub, Int.reduceAdd, Int.reduceMul, fz, bin_xor8] | (with_reducible refine qg9 ?_ ?_; focus (first | (simp (maxDischargeDepth := 8) only [bb, kk, fz, bin_xor8]; done) | kernel_rfl)) | ((with_reducible first | refine qf7 ?_ ?_ | refine qf8 ?_ ?_ | refine qf9 ?_ ?_ | refine qg ?_ ?_ | refine qg0 ?_ ?_ | refine qg1 ?_ ?_ | refine qg2 ?_ ?_); focus (first | with_reducible assumption | omega | (simp only [bz, fz, bin_xor8]; omega))) | ((with_reducible first | refine qg3 ?_ ?_ | refine qg4 ?_ ?_ | refine qg5 ?_ ?_); focus (first | with_reducible assumption | omega | (simp only [bz, fz, bin_xor8]; omega))) | ((with_reducible first | refine g1_u8w ?_ ?_ | refine qg7 ?_ ?_); (focus ((repeat' (with_reducible apply And.intro)) <;> (first | with_reducible assumption | omega | (simp only [bz, fz, bin_xor8]; omega) | (simp (maxDischargeDepth := 8) only [bb, fz, bin_xor8]; done)))); intro _)))
    refine loop_go (fun k => {T := tp [(0, .sl tg 1 n c cs), (1, iv .u8 x), (5, .ref 0 [] 1 0 i (capG i)), (6, vi i), (7, iv .u8 (at0 (un cs) i)), (8, iv .u8 (wS (un cs) x (at0 (un cs) i) i k).1), (9, iv .u8 (wS (un cs) x (at0 (un cs) i) i k).2), (15, .sl tg 1 n c cs), (16, vi n), (17, vi i), (22, .sl tg 1 n c cs), (23, vi n), (24, vi k)], H := hp [some ((wL (un cs) x i).map (iv .u8))], nx := 1}) n ?_ (lt_LF (by omega)) (fun k hi2 Kn2 hK2 => ?_) (fun Kn2 => ?_)
    · simp only [vv, ff, norm, Array.toList, List.map, Option.isSome_none, bne_self_eq_false, reduceIte, reduceCtorEq, Nat.reduceEqDiff, Nat.reduceAdd, Nat.reduceMul, Nat.reduceSub, Nat.reduceBEq, Nat.reduceLeDiff, Int.reduceEq, Int.reduceLT, Int.reduceLE, Int.reduceGE, Int.reduceGT, Int.reduceBEq, Int.reduceBNe, Int.reduceToNat, Int.reduceNeg, Int.reduceSub, Int.reduceAdd, Int.reduceMul, finish, qf0, resOf, resa, qf1, qf2, qf3, keep, qf4, qf5, qf6, qe9, qf, Int.natCast_zero, wS]
    · have hb1 := hb.at0 k
      obtain ⟨u1, u2⟩ := wS_b hb (x := x) (a := at0 (un cs) i) i k
      have hx1 := xor8_b hx hb1
      have hx2 := xor8_b ha hb1
      have hm1 := fun d => q51 d _ _ u1 (x8_b hx hb1)
      have hm2 := fun d => q51 d _ _ u2 (x8_b ha hb1)
      by_cases hik : i = k
      · have hn1 : wS (un cs) x (at0 (un cs) i) i (k + 1) = wS (un cs) x (at0 (un cs) i) i k := by rw [wS, if_pos hik]
        rw [hn1] at hK2
        generalize wS (un cs) x (at0 (un cs) i) i k = y at *
        (have fz := ga3 hk hn hb; repeat' (first | simp (maxDischargeDepth := 8) only [go_sem, rr, reduceIte, reduceCtorEq, Nat.reduceEqDiff, Nat.reduceAdd, Nat.reduceMul, Nat.reduceSub, Nat.reduceBEq, Nat.reduceLeDiff, Int.reduceEq, Int.reduceLT, Int.reduceLE, Int.reduceGE, Int.reduceGT, Int.reduceBEq, Int.reduceBNe, Int.reduceToNat, Int.reduceNeg, Int.reduceSub, Int.reduceAdd, Int.reduceMul, fz, bin_xor8] | (with_reducible refine qg9 ?_ ?_; focus (first | (simp (maxDischargeDepth := 8) only [bb, kk, fz, bin_xor8]; done) | kernel_rfl)) | ((with_reducible first | refine qf7 ?_ ?_ | refine qf8 ?_ ?_ | refine qf9 ?_ ?_ | refine qg ?_ ?_ | refine qg0 ?_ ?_ | refine qg1 ?_ ?_ | refine qg2 ?_ ?_); focus (first | with_reducible assumption | omega | (simp only [bz, fz, bin_xor8]; omega))) | ((with_reducible first | refine qg3 ?_ ?_ | refine qg4 ?_ ?_ | refine qg5 ?_ ?_); focus (first | with_reducible assumption | omega | (simp only [bz, fz, bin_xor8]; omega))) | ((with_reducible first | refine g1_u8w ?_ ?_ | refine qg7 ?_ ?_); (focus ((repeat' (with_reducible apply And.intro)) <;> (first | with_reducible assumption | omega | (simp only [bz, fz, bin_xor8]; omega) | (simp (maxDischargeDepth := 8) only [bb, fz, bin_xor8]; done)))); intro _)))
        refine hK2 _ ?_
        simp only [vv, ff, norm, Array.toList, List.map, Option.isSome_none, bne_self_eq_false, reduceIte, reduceCtorEq, Nat.reduceEqDiff, Nat.reduceAdd, Nat.reduceMul, Nat.reduceSub, Nat.reduceBEq, Nat.reduceLeDiff, Int.reduceEq, Int.reduceLT, Int.reduceLE, Int.reduceGE, Int.reduceGT, Int.reduceBEq, Int.reduceBNe, Int.reduceToNat, Int.reduceNeg, Int.reduceSub, Int.reduceAdd, Int.reduceMul, finish, qf0, resOf, resa, qf1, qf2, qf3, keep, qf4, qf5, qf6, qe9, qf, Int.natCast_add, cst1]
      · have hn1 : wS (un cs) x (at0 (un cs) i) i (k + 1) = (m8 (wS (un cs) x (at0 (un cs) i) i k).1 (x8 x (at0 (un cs) k)), m8 (wS (un cs) x (at0 (un cs) i) i k).2 (x8 (at0 (un cs) i) (at0 (un cs) k))) := by rw [wS, if_neg hik]
        rw [hn1] at hK2
        generalize wS (un cs) x (at0 (un cs) i) i k = y at *
        (have fz := ga7 hk hn hb hx1 hx2 hm1 hm2; repeat' (first | simp (maxDischargeDepth := 8) only [go_sem, rr, reduceIte, reduceCtorEq, Nat.reduceEqDiff, Nat.reduceAdd, Nat.reduceMul, Nat.reduceSub, Nat.reduceBEq, Nat.reduceLeDiff, Int.reduceEq, Int.reduceLT, Int.reduceLE, Int.reduceGE, Int.reduceGT, Int.reduceBEq, Int.reduceBNe, Int.reduceToNat, Int.reduceNeg, Int.reduceSub, Int.reduceAdd, Int.reduceMul, fz, bin_xor8] | (with_reducible refine qg9 ?_ ?_; focus (first | (simp (maxDischargeDepth := 8) only [bb, kk, fz, bin_xor8]; done) | kernel_rfl)) | ((with_reducible first | refine qf7 ?_ ?_ | refine qf8 ?_ ?_ | refine qf9 ?_ ?_ | refine qg ?_ ?_ | refine qg0 ?_ ?_ | refine qg1 ?_ ?_ | refine qg2 ?_ ?_); focus (first | with_reducible assumption | omega | (simp only [bz, fz, bin_xor8]; omega))) | ((with_reducible first | refine qg3 ?_ ?_ | refine qg4 ?_ ?_ | refine qg5 ?_ ?_); focus (first | with_reducible assumption | omega | (simp only [bz, fz, bin_xor8]; omega))) | ((with_reducible first | refine g1_u8w ?_ ?_ | refine qg7 ?_ ?_); (focus ((repeat' (with_reducible apply And.intro)) <;> (first | with_reducible assumption | omega | (simp only [bz, fz, bin_xor8]; omega) | (simp (maxDischargeDepth := 8) only [bb, fz, bin_xor8]; done)))); intro _)))
        refine hK2 _ ?_
        simp only [vv, ff, norm, Array.toList, List.map, Option.isSome_none, bne_self_eq_false, reduceIte, reduceCtorEq, Nat.reduceEqDiff, Nat.reduceAdd, Nat.reduceMul, Nat.reduceSub, Nat.reduceBEq, Nat.reduceLeDiff, Int.reduceEq, Int.reduceLT, Int.reduceLE, Int.reduceGE, Int.reduceGT, Int.reduceBEq, Int.reduceBNe, Int.reduceToNat, Int.reduceNeg, Int.reduceSub, Int.reduceAdd, Int.reduceMul, finish, qf0, resOf, resa, qf1, qf2, qf3, keep, qf4, qf5, qf6, qe9, qf, Int.natCast_add, cst1]
    · obtain ⟨u1, u2⟩ := wS_b hb (x := x) (a := at0 (un cs) i) i n
      have hm1 := fun d => q51 d _ _ u1 (v8_b u2)
      have hw : m8 (wS (un cs) x (at0 (un cs) i) i n).1 (v8 (wS (un cs) x (at0 (un cs) i) i n).2) = wt (un cs) x i := by rw [wt, hlu]
      rw [hw] at hm1
      have hI := fun d => e52 d _ u2
      have hsu := wL_succ (un cs) x i
      have hln : ((wL (un cs) x i).map (iv .u8)).length = i := by rw [List.length_map, wL_len]
      have how := anyOwn_iv .u8 (wL (un cs) x i)
      generalize wS (un cs) x (at0 (un cs) i) i n = y at *
      (have fz := ga8 hk hn hb hI hm1 hsu hln how; repeat' (first | simp (maxDischargeDepth := 8) only [go_sem, rr, reduceIte, reduceCtorEq, Nat.reduceEqDiff, Nat.reduceAdd, Nat.reduceMul, Nat.reduceSub, Nat.reduceBEq, Nat.reduceLeDiff, Int.reduceEq, Int.reduceLT, Int.reduceLE, Int.reduceGE, Int.reduceGT, Int.reduceBEq, Int.reduceBNe, Int.reduceToNat, Int.reduceNeg, Int.reduceSub, Int.reduceAdd, Int.reduceMul, fz] | (with_reducible refine qg9 ?_ ?_; focus (first | (simp (maxDischargeDepth := 8) only [bb, kk, fz]; done) | kernel_rfl)) | ((with_reducible first | refine qf7 ?_ ?_ | refine qf8 ?_ ?_ | refine qf9 ?_ ?_ | refine qg ?_ ?_ | refine qg0 ?_ ?_ | refine qg1 ?_ ?_ | refine qg2 ?_ ?_); focus (first | with_reducible assumption | omega | (simp only [bz, fz]; omega))) | ((with_reducible first | refine qg3 ?_ ?_ | refine qg4 ?_ ?_ | refine qg5 ?_ ?_); focus (first | with_reducible assumption | omega | (simp only [bz, fz]; omega))) | ((with_reducible first | refine g1_u8w ?_ ?_ | refine qg7 ?_ ?_); (focus ((repeat' (with_reducible apply And.intro)) <;> (first | with_reducible assumption | omega | (simp only [bz, fz]; omega) | (simp (maxDischargeDepth := 8) only [bb, fz]; done)))); intro _)))
      refine hK _ ?_
      simp only [vv, ff, norm, Array.toList, List.map, Option.isSome_none, bne_self_eq_false, reduceIte, reduceCtorEq, Nat.reduceEqDiff, Nat.reduceAdd, Nat.reduceMul, Nat.reduceSub, Nat.reduceBEq, Nat.reduceLeDiff, Int.reduceEq, Int.reduceLT, Int.reduceLE, Int.reduceGE, Int.reduceGT, Int.reduceBEq, Int.reduceBNe, Int.reduceToNat, Int.reduceNeg, Int.reduceSub, Int.reduceAdd, Int.reduceMul, finish, qf0, resOf, resa, qf1, qf2, qf3, keep, qf4, qf5, qf6, qe9, qf, Int.natCast_add, cst1, capG_one, capG_succ]
  · have how := noSnapL_iv .u8 (wL (un cs) x n)
    (repeat' (first | simp (maxDischargeDepth := 8) only [go_sem, rr, reduceIte, reduceCtorEq, Nat.reduceEqDiff, Nat.reduceAdd, Nat.reduceMul, Nat.reduceSub, Nat.reduceBEq, Nat.reduceLeDiff, Int.reduceEq, Int.reduceLT, Int.reduceLE, Int.reduceGE, Int.reduceGT, Int.reduceBEq, Int.reduceBNe, Int.reduceToNat, Int.reduceNeg, Int.reduceSub, Int.reduceAdd, Int.reduceMul, how] | (with_reducible refine qg9 ?_ ?_; focus (first | (simp (maxDischargeDepth := 8) only [bb, kk, how]; done) | kernel_rfl)) | ((with_reducible first | refine qf7 ?_ ?_ | refine qf8 ?_ ?_ | refine qf9 ?_ ?_ | refine qg ?_ ?_ | refine qg0 ?_ ?_ | refine qg1 ?_ ?_ | refine qg2 ?_ ?_); focus (first | with_reducible assumption | omega | (simp only [bz, how]; omega))) | ((with_reducible first | refine qg3 ?_ ?_ | refine qg4 ?_ ?_ | refine qg5 ?_ ?_); focus (first | with_reducible assumption | omega | (simp only [bz, how]; omega))) | ((with_reducible first | refine g1_u8w ?_ ?_ | refine qg7 ?_ ?_); (focus ((repeat' (with_reducible apply And.intro)) <;> (first | with_reducible assumption | omega | (simp only [bz, how]; omega) | (simp (maxDischargeDepth := 8) only [bb, how]; done)))); intro _)))
end Go.Proofs.Ythgopooldcheeaa.VH.S
end

section
namespace Go.Proofs.Ythgopooldcheeaa.VH.S
open Go.Proofs
set_option maxRecDepth 100000
set_option maxHeartbeats 8000000
set_option linter.unusedSimpArgs false

/- Rows of rows of bytes. -/
/- reducible -/
abbrev cB (x : List Int) : AV := .sl .own 1 x.length none (x.map (iv .u8))
def rB (S : List (List Int)) : List AV := S.map cB
def sA (S : List (List Int)) (i : Nat) : List Int := S.getD i []
theorem sA_get {S : List (List Int)} {i : Nat} (h : i < S.length) : sA S i = S[i] := by
  rw [sA, List.getD_eq_getElem?_getD, List.getElem?_eq_getElem h]; rfl
theorem rB_len (S : List (List Int)) : (rB S).length = S.length := by simp [rB]
theorem rB_g1 (S : List (List Int)) {i : Nat} (h : i < S.length) : g1 (rB S) i = some (.sl .own 1 (sA S i).length none ((sA S i).map (iv .u8))) := by
  rw [g1, rB, List.getElem?_map, List.getElem?_eq_getElem h, sA_get h]; rfl
theorem rB_take (S : List (List Int)) (k : Nat) : (rB S).take k = rB (S.take k) := by rw [rB, rB, List.map_take]
theorem rB_snap : ∀ S : List (List Int), qf2 (rB S) = true
  | [] => rfl
  | x :: S => by
    have : rB (x :: S) = cB x :: rB S := rfl
    rw [this]; simp only [qf2, qf1, noSnapL_iv, rB_snap S, Bool.and_self]
theorem sA_take {S : List (List Int)} {k i : Nat} (h : i < k) : sA (S.take k) i = sA S i := by
  simp only [sA, List.getD_eq_getElem?_getD]; rw [List.getElem?_take, if_pos h]
/-- the rows are of so many bytes -/
def Rows8 (S : List (List Int)) (q lo : Nat) : Prop := S.length = q ∧ ∀ i, i < q → (sA S i).length = lo ∧ B8 (sA S i)
def axL (X Y : List Int) (k : Int) (i : Nat) : List Int := (List.range i).map fun p => x8 (at0 X p) (m8 k (at0 Y p))
theorem axL_len (X Y : List Int) (k : Int) (i : Nat) : (axL X Y k i).length = i := by simp [axL]
theorem axL_succ (X Y : List Int) (k : Int) (i : Nat) : (axL X Y k i).map (iv .u8) ++ [iv .u8 (x8 (at0 X i) (m8 k (at0 Y i)))] = (axL X Y k (i + 1)).map (iv .u8) := by simp [axL, List.range_succ]
theorem axL_b8 {X Y : List Int} (hX : B8 X) {k : Int} (hk : 0 ≤ k ∧ k < 256) (i : Nat) : B8 (axL X Y k i) := fun v hv => by
  simp only [axL, List.mem_map] at hv
  obtain ⟨p, _, rfl⟩ := hv
  exact x8_b (hX.at0 p) (m8_b _ hk)
theorem e49 (d : Nat) (tg tg' : Tg) (c c' : Option Nat) (cs ds : List AV) (n : Nat) (x : Int) (hk : isK .u8 cs = true) (hn : cs.length = n) (hb : B8 (un cs)) (hk2 : isK .u8 ds = true) (hn2 : ds.length = n) (hb2 : B8 (un ds)) (hl : n ≤ 1000) (hx : 0 ≤ x ∧ x < 256) : evFun E (d+2) 49 [.sl tg 1 n c cs, iv .u8 x, .sl tg' 1 n c' ds] [] = some (.tup [.ref 0 [] 1 0 n (capG n), vb true], [some ((axL (un cs) (un ds) x n).map (iv .u8))]) := by
  refine evFun_body b49 ?_
  (repeat' (first | simp (maxDischargeDepth := 8) only [go_sem, rr, reduceIte, reduceCtorEq, Nat.reduceEqDiff, Nat.reduceAdd, Nat.reduceMul, Nat.reduceSub, Nat.reduceBEq, Nat.reduceLeDiff, Int.reduceEq, Int.reduceLT, Int.reduceLE, Int.reduceGE, Int.reduceGT, Int.reduceBEq, Int.reduceBNe, Int.reduceToNat, Int.reduceNeg, Int.reduceSub, Int.reduceAdd, Int.reduceMul, Try.f49] | (with_reducible refine qg9 ?_ ?_; focus (first | (simp (maxDischargeDepth := 8) only [bb, kk]; done) | kernel_rfl)) | ((with_reducible first | refine qf7 ?_ ?_ | refine qf8 ?_ ?_ | refine qf9 ?_ ?_ | refine qg ?_ ?_ | refine qg0 ?_ ?_ | refine qg1 ?_ ?_ | refine qg2 ?_ ?_); focus (first | with_reducible assumption | omega | (simp only [bz]; omega))) | ((with_reducible first | refine qg3 ?_ ?_ | refine qg4 ?_ ?_ | refine qg5 ?_ ?_); focus (first | with_reducible assumption | omega | (simp only [bz]; omega))) | ((with_reducible first | refine g1_u8w ?_ ?_ | refine qg7 ?_ ?_); (focus ((repeat' (with_reducible apply And.intro)) <;> (first | with_reducible assumption | omega | (simp only [bz]; omega) | (simp (maxDischargeDepth := 8) only [bb]; done)))); intro _)))
  refine loop_go (fun i => {T := tp [(1, iv .u8 x), (2, .sl tg' 1 n c' ds), (8, .ref 0 [] 1 0 i (capG i)), (17, .sl tg 1 n c cs), (18, vi n), (19, vi i)], H := hp [some ((axL (un cs) (un ds) x i).map (iv .u8))], nx := 1}) n ?_ (lt_LF (by omega)) (fun i hi Kn hK => ?_) (fun Kn => ?_)
  · simp only [vv, ff, norm, Array.toList, List.map, Option.isSome_none, bne_self_eq_false, reduceIte, reduceCtorEq, Nat.reduceEqDiff, Nat.reduceAdd, Nat.reduceMul, Nat.reduceSub, Nat.reduceBEq, Nat.reduceLeDiff, Int.reduceEq, Int.reduceLT, Int.reduceLE, Int.reduceGE, Int.reduceGT, Int.reduceBEq, Int.reduceBNe, Int.reduceToNat, Int.reduceNeg, Int.reduceSub, Int.reduceAdd, Int.reduceMul, finish, qf0, resOf, resa, qf1, qf2, qf3, keep, qf4, qf5, qf6, qe9, qf, Int.natCast_zero, capG_zero, axL, List.range_zero, List.map_nil]
  · have ha := hb.at0 i
    have hy := hb2.at0 i
    have hm := fun d => q51 d x _ hx hy
    have hxo := xor8_b ha (m8_b (at0 (un ds) i) hx)
    have hsu := axL_succ (un cs) (un ds) x i
    have hln : ((axL (un cs) (un ds) x i).map (iv .u8)).length = i := by rw [List.length_map, axL_len]
    have how := anyOwn_iv .u8 (axL (un cs) (un ds) x i)
    (have fz := ga11 hk hn hb hk2 hn2 hb2 hm hxo hsu hln how; repeat' (first | simp (maxDischargeDepth := 8) only [go_sem, rr, reduceIte, reduceCtorEq, Nat.reduceEqDiff, Nat.reduceAdd, Nat.reduceMul, Nat.reduceSub, Nat.reduceBEq, Nat.reduceLeDiff, Int.reduceEq, Int.reduceLT, Int.reduceLE, Int.reduceGE, Int.reduceGT, Int.reduceBEq, Int.reduceBNe, Int.reduceToNat, Int.reduceNeg, Int.reduceSub, Int.reduceAdd, Int.reduceMul, fz, bin_xor8] | (with_reducible refine qg9 ?_ ?_; focus (first | (simp (maxDischargeDepth := 8) only [bb, kk, fz, bin_xor8]; done) | kernel_rfl)) | ((with_reducible first | refine qf7 ?_ ?_ | refine qf8 ?_ ?_ | refine qf9 ?_ ?_ | refine qg ?_ ?_ | refine qg0 ?_ ?_ | refine qg1 ?_ ?_ | refine qg2 ?_ ?_); focus (first | with_reducible assumption | omega | (simp only [bz, fz, bin_xor8]; omega))) | ((with_reducible first | refine qg3 ?_ ?_ | refine qg4 ?_ ?_ | refine qg5 ?_ ?_); focus (first | with_reducible assumption | omega | (simp only [bz, fz, bin_xor8]; omega))) | ((with_reducible first | refine g1_u8w ?_ ?_ | refine qg7 ?_ ?_); (focus ((repeat' (with_reducible apply And.intro)) <;> (first | with_reducible assumption | omega | (simp only [bz, fz, bin_xor8]; omega) | (simp (maxDischargeDepth := 8) only [bb, fz, bin_xor8]; done)))); intro _)))
    refine hK _ ?_
    simp only [vv, ff, norm, Array.toList, List.map, Option.isSome_none, bne_self_eq_false, reduceIte, reduceCtorEq, Nat.reduceEqDiff, Nat.reduceAdd, Nat.reduceMul, Nat.reduceSub, Nat.reduceBEq, Nat.reduceLeDiff, Int.reduceEq, Int.reduceLT, Int.reduceLE, Int.reduceGE, Int.reduceGT, Int.reduceBEq, Int.reduceBNe, Int.reduceToNat, Int.reduceNeg, Int.reduceSub, Int.reduceAdd, Int.reduceMul, finish, qf0, resOf, resa, qf1, qf2, qf3, keep, qf4, qf5, qf6, qe9, qf, Int.natCast_add, cst1, capG_one, capG_succ]
  · have how := noSnapL_iv .u8 (axL (un cs) (un ds) x n)
    (repeat' (first | simp (maxDischargeDepth := 8) only [go_sem, rr, reduceIte, reduceCtorEq, Nat.reduceEqDiff, Nat.reduceAdd, Nat.reduceMul, Nat.reduceSub, Nat.reduceBEq, Nat.reduceLeDiff, Int.reduceEq, Int.reduceLT, Int.reduceLE, Int.reduceGE, Int.reduceGT, Int.reduceBEq, Int.reduceBNe, Int.reduceToNat, Int.reduceNeg, Int.reduceSub, Int.reduceAdd, Int.reduceMul, how] | (with_reducible refine qg9 ?_ ?_; focus (first | (simp (maxDischargeDepth := 8) only [bb, kk, how]; done) | kernel_rfl)) | ((with_reducible first | refine qf7 ?_ ?_ | refine qf8 ?_ ?_ | refine qf9 ?_ ?_ | refine qg ?_ ?_ | refine qg0 ?_ ?_ | refine qg1 ?_ ?_ | refine qg2 ?_ ?_); focus (first | with_reducible assumption | omega | (simp only [bz, how]; omega))) | ((with_reducible first | refine qg3 ?_ ?_ | refine qg4 ?_ ?_ | refine qg5 ?_ ?_); focus (first | with_reducible assumption | omega | (simp only [bz, how]; omega))) | ((with_reducible first | refine g1_u8w ?_ ?_ | refine qg7 ?_ ?_); (focus ((repeat' (with_reducible apply And.intro)) <;> (first | with_reducible assumption | omega | (simp only [bz, how]; omega) | (simp (maxDischargeDepth := 8) only [bb, how]; done)))); intro _)))
def bpL (S : List (List Int)) (X : List Int) (x : Int) (lo : Nat) : Nat → List Int
  | 0 => List.replicate lo 0
  | i + 1 => axL (bpL S X x lo i) (sA S i) (wt X x i) lo
theorem bpL_len (S : List (List Int)) (X : List Int) (x : Int) (lo : Nat) : ∀ i, (bpL S X x lo i).length = lo
  | 0 => by simp [bpL]
  | i + 1 => by rw [bpL, axL_len]
theorem bpL_b8 (S : List (List Int)) {X : List Int} (hX : B8 X) (x : Int) (lo : Nat) : ∀ i, B8 (bpL S X x lo i)
  | 0 => fun v hv => by rw [bpL] at hv; rw [List.eq_of_mem_replicate hv]; decide
  | i + 1 => by rw [bpL]; exact axL_b8 (bpL_b8 S hX x lo i) (wt_b hX x i) lo
def capO (lo i : Nat) : Option Nat := if i = 0 then some lo else none
theorem capO_zero (lo : Nat) : capO lo 0 = some lo := rfl
theorem capO_succ (lo i : Nat) : capO lo (i + 1) = none := rfl
theorem capG_pos {n : Nat} (h : 0 < n) : capG n = none := if_neg (by omega)
theorem e42 (d : Nat) (tg : Tg) (c c' : Option Nat) (cs : List AV) (m q lo : Nat) (S : List (List Int)) (x : Int) (hk : isK .u8 cs = true) (hn : cs.length = m) (hb : B8 (un cs)) (hS : Rows8 S q lo) (h0 : 0 < m) (hmq : m ≤ q) (hq : q ≤ 100) (hlo : 0 < lo) (hlo2 : lo ≤ 1000) (hx : 0 ≤ x ∧ x < 256) : evFun E (d+5) 42 [.sl tg 1 m c cs, .sl .snap 1 q c' (rB S), iv .u8 x] [] = some (.ref 0 [] 1 0 lo none, [some ((bpL S (un cs) x lo m).map (iv .u8))]) := by
  refine evFun_body b42 ?_
  obtain ⟨hSl, hSr⟩ := hS
  have hg0 := rB_g1 S (i := 0) (by omega)
  have hrl := rB_len S
  have hl0 := (hSr 0 (by omega)).1
  rw [hl0] at hg0
  have hz : ∀ td a b, zeros ⟨td, 1, a, [.int .u8 0], b⟩ lo = (List.replicate lo (0 : Int)).map (iv .u8) := fun _ _ _ => by simp [zeros]
  have hW := fun d tg c => e48 d tg c cs m x hk hn hb (by omega) hx
  have hat : ∀ i, i < m → at0 (un ((wL (un cs) x m).map (iv .u8))) i = wt (un cs) x i := fun i hi => by
    rw [un_map, at0_get (by rw [wL_len]; exact hi)]; simp [wL]
  have hkw : isK .u8 ((wL (un cs) x m).map (iv .u8)) = true := isK_map _ _
  have hnw : ((wL (un cs) x m).map (iv .u8)).length = m := by rw [List.length_map, wL_len]
  have hbw : B8 (un ((wL (un cs) x m).map (iv .u8))) := by
    rw [un_map]
    intro v hv
    simp only [wL, List.mem_map] at hv
    obtain ⟨p, _, rfl⟩ := hv
    exact wt_b hb x p
  generalize (wL (un cs) x m).map (iv .u8) = ws at *
  have how := isK_own hkw
  have hsw := isK_snap hkw
  (have fz := ga4 hg0 hrl hW hz; repeat' (first | simp (maxDischargeDepth := 8) only [go_sem, rr, reduceIte, reduceCtorEq, Nat.reduceEqDiff, Nat.reduceAdd, Nat.reduceMul, Nat.reduceSub, Nat.reduceBEq, Nat.reduceLeDiff, Int.reduceEq, Int.reduceLT, Int.reduceLE, Int.reduceGE, Int.reduceGT, Int.reduceBEq, Int.reduceBNe, Int.reduceToNat, Int.reduceNeg, Int.reduceSub, Int.reduceAdd, Int.reduceMul, fz, Try.f42] | (with_reducible refine qg9 ?_ ?_; focus (first | (simp (maxDischargeDepth := 8) only [bb, kk, fz]; done) | kernel_rfl)) | ((with_reducible first | refine qf7 ?_ ?_ | refine qf8 ?_ ?_ | refine qf9 ?_ ?_ | refine qg ?_ ?_ | refine qg0 ?_ ?_ | refine qg1 ?_ ?_ | refine qg2 ?_ ?_); focus (first | with_reducible assumption | omega | (simp only [bz, fz]; omega))) | ((with_reducible first | refine qg3 ?_ ?_ | refine qg4 ?_ ?_ | refine qg5 ?_ ?_); focus (first | with_reducible assumption | omega | (simp only [bz, fz]; omega))) | ((with_reducible first | refine g1_u8w ?_ ?_ | refine qg7 ?_ ?_); (focus ((repeat' (with_reducible apply And.intro)) <;> (first | with_reducible assumption | omega | (simp only [bz, fz]; omega) | (simp (maxDischargeDepth := 8) only [bb, fz]; done)))); intro _)))
  refine loop_go (fun i => {T := tp [(1, .sl .snap 1 q c' (rB S)), (7, .ref 0 [] 1 0 lo (capO lo i)), (17, .ref 1 [] 1 0 m (capG m)), (18, vi m), (19, vi i)], H := hp [some ((bpL S (un cs) x lo i).map (iv .u8)), some ws], nx := 2}) m ?_ (lt_LF (by omega)) (fun i hi Kn hK => ?_) (fun Kn => ?_)
  · simp only [vv, ff, norm, Array.toList, List.map, Option.isSome_none, bne_self_eq_false, reduceIte, reduceCtorEq, Nat.reduceEqDiff, Nat.reduceAdd, Nat.reduceMul, Nat.reduceSub, Nat.reduceBEq, Nat.reduceLeDiff, Int.reduceEq, Int.reduceLT, Int.reduceLE, Int.reduceGE, Int.reduceGT, Int.reduceBEq, Int.reduceBNe, Int.reduceToNat, Int.reduceNeg, Int.reduceSub, Int.reduceAdd, Int.reduceMul, finish, qf0, resOf, resa, qf1, qf2, qf3, keep, qf4, qf5, qf6, qe9, qf, Int.natCast_zero, capO_zero, bpL]
  · have hg := rB_g1 S (i := i) (by omega)
    obtain ⟨l1, l2⟩ := hSr i (by omega)
    rw [l1] at hg
    have ha := hat i hi
    have hA := fun d tg tg' c c' => e49 d tg tg' c c' ((bpL S (un cs) x lo i).map (iv .u8)) ((sA S i).map (iv .u8)) lo (wt (un cs) x i) (isK_map _ _) (by rw [List.length_map, bpL_len]) (by rw [un_map]; exact bpL_b8 S hb x lo i) (isK_map _ _) (by rw [List.length_map]; exact l1) (by rw [un_map]; exact l2) hlo2 (wt_b hb x i)
    simp only [un_map, capG_pos hlo] at hA
    have hn1 : axL (bpL S (un cs) x lo i) (sA S i) (wt (un cs) x i) lo = bpL S (un cs) x lo (i + 1) := rfl
    rw [hn1] at hA
    have hbl : ((bpL S (un cs) x lo i).map (iv .u8)).length = lo := by rw [List.length_map, bpL_len]
    have hbo := anyOwn_iv .u8 (bpL S (un cs) x lo i)
    have hbs := noSnapL_iv .u8 (bpL S (un cs) x lo i)
    generalize bpL S (un cs) x lo i = y at *
    generalize bpL S (un cs) x lo (i + 1) = y2 at *
    generalize wt (un cs) x i = w at *
    generalize sA S i = z at *
    (have fz := ga12 hg hrl hA hkw hnw hbw how hsw ha hbl hbo hbs; repeat' (first | simp (maxDischargeDepth := 8) only [go_sem, rr, reduceIte, reduceCtorEq, Nat.reduceEqDiff, Nat.reduceAdd, Nat.reduceMul, Nat.reduceSub, Nat.reduceBEq, Nat.reduceLeDiff, Int.reduceEq, Int.reduceLT, Int.reduceLE, Int.reduceGE, Int.reduceGT, Int.reduceBEq, Int.reduceBNe, Int.reduceToNat, Int.reduceNeg, Int.reduceSub, Int.reduceAdd, Int.reduceMul, fz] | (with_reducible refine qg9 ?_ ?_; focus (first | (simp (maxDischargeDepth := 8) only [bb, kk, fz]; done) | kernel_rfl)) | ((with_reducible first | refine qf7 ?_ ?_ | refine qf8 ?_ ?_ | refine qf9 ?_ ?_ | refine qg ?_ ?_ | refine qg0 ?_ ?_ | refine qg1 ?_ ?_ | refine qg2 ?_ ?_); focus (first | with_reducible assumption | omega | (simp only [bz, fz]; omega))) | ((with_reducible first | refine qg3 ?_ ?_ | refine qg4 ?_ ?_ | refine qg5 ?_ ?_); focus (first | with_reducible assumption | omega | (simp only [bz, fz]; omega))) | ((with_reducible first | refine g1_u8w ?_ ?_ | refine qg7 ?_ ?_); (focus ((repeat' (with_reducible apply And.intro)) <;> (first | with_reducible assumption | omega | (simp only [bz, fz]; omega) | (simp (maxDischargeDepth := 8) only [bb, fz]; done)))); intro _)))
    refine hK _ ?_
    simp only [vv, ff, norm, Array.toList, List.map, Option.isSome_none, bne_self_eq_false, reduceIte, reduceCtorEq, Nat.reduceEqDiff, Nat.reduceAdd, Nat.reduceMul, Nat.reduceSub, Nat.reduceBEq, Nat.reduceLeDiff, Int.reduceEq, Int.reduceLT, Int.reduceLE, Int.reduceGE, Int.reduceGT, Int.reduceBEq, Int.reduceBNe, Int.reduceToNat, Int.reduceNeg, Int.reduceSub, Int.reduceAdd, Int.reduceMul, finish, qf0, resOf, resa, qf1, qf2, qf3, keep, qf4, qf5, qf6, qe9, qf, Int.natCast_add, cst1, capO_succ]
  · have hc : capO lo m = none := if_neg (by omega)
    have hbs := noSnapL_iv .u8 (bpL S (un cs) x lo m)
    have hbo := anyOwn_iv .u8 (bpL S (un cs) x lo m)
    rw [hc]
    (have fz := ga6 hkw hnw how hsw hbs hbo; repeat' (first | simp (maxDischargeDepth := 8) only [go_sem, rr, reduceIte, reduceCtorEq, Nat.reduceEqDiff, Nat.reduceAdd, Nat.reduceMul, Nat.reduceSub, Nat.reduceBEq, Nat.reduceLeDiff, Int.reduceEq, Int.reduceLT, Int.reduceLE, Int.reduceGE, Int.reduceGT, Int.reduceBEq, Int.reduceBNe, Int.reduceToNat, Int.reduceNeg, Int.reduceSub, Int.reduceAdd, Int.reduceMul, fz] | (with_reducible refine qg9 ?_ ?_; focus (first | (simp (maxDischargeDepth := 8) only [bb, kk, fz]; done) | kernel_rfl)) | ((with_reducible first | refine qf7 ?_ ?_ | refine qf8 ?_ ?_ | refine qf9 ?_ ?_ | refine qg ?_ ?_ | refine qg0 ?_ ?_ | refine qg1 ?_ ?_ | refine qg2 ?_ ?_); focus (first | with_reducible assumption | omega | (simp only [bz, fz]; omega))) | ((with_reducible first | refine qg3 ?_ ?_ | refine qg4 ?_ ?_ | refine qg5 ?_ ?_); focus (first | with_reducible assumption | omega | (simp only [bz, fz]; omega))) | ((with_reducible first | refine g1_u8w ?_ ?_ | refine qg7 ?_ ?_); (focus ((repeat' (with_reducible apply And.intro)) <;> (first | with_reducible assumption | omega | (simp only [bz, fz]; omega) | (simp (maxDischargeDepth := 8) only [bb, fz]; done)))); intro _)))
def colL (S : List (List Int)) (p : Nat) (i : Nat) : List Int := (List.range i).map fun j => at0 (sA S j) p
theorem colL_len (S : List (List Int)) (p i : Nat) : (colL S p i).length = i := by simp [colL]
theorem colL_succ (S : List (List Int)) (p i : Nat) : (colL S p i).map (iv .u8) ++ [iv .u8 (at0 (sA S i) p)] = (colL S p (i + 1)).map (iv .u8) := by simp [colL, List.range_succ]
theorem e24 (d : Nat) (c : Option Nat) (q lo p : Nat) (S : List (List Int)) (hS : Rows8 S q lo) (hq : q ≤ 100) (hp0 : p < lo) (hlo2 : lo ≤ 1000) : evFun E (d+1) 24 [.sl .snap 1 q c (rB S), vi p] [] = some (.ref 0 [] 1 0 q (capG q), [some ((colL S p q).map (iv .u8))]) := by
  refine evFun_body b24 ?_
  obtain ⟨hSl, hSr⟩ := hS
  have hrl := rB_len S
  (repeat' (first | simp (maxDischargeDepth := 8) only [go_sem, rr, reduceIte, reduceCtorEq, Nat.reduceEqDiff, Nat.reduceAdd, Nat.reduceMul, Nat.reduceSub, Nat.reduceBEq, Nat.reduceLeDiff, Int.reduceEq, Int.reduceLT, Int.reduceLE, Int.reduceGE, Int.reduceGT, Int.reduceBEq, Int.reduceBNe, Int.reduceToNat, Int.reduceNeg, Int.reduceSub, Int.reduceAdd, Int.reduceMul, Try.f24] | (with_reducible refine qg9 ?_ ?_; focus (first | (simp (maxDischargeDepth := 8) only [bb, kk]; done) | kernel_rfl)) | ((with_reducible first | refine qf7 ?_ ?_ | refine qf8 ?_ ?_ | refine qf9 ?_ ?_ | refine qg ?_ ?_ | refine qg0 ?_ ?_ | refine qg1 ?_ ?_ | refine qg2 ?_ ?_); focus (first | with_reducible assumption | omega | (simp only [bz]; omega))) | ((with_reducible first | refine qg3 ?_ ?_ | refine qg4 ?_ ?_ | refine qg5 ?_ ?_); focus (first | with_reducible assumption | omega | (simp only [bz]; omega))) | ((with_reducible first | refine g1_u8w ?_ ?_ | refine qg7 ?_ ?_); (focus ((repeat' (with_reducible apply And.intro)) <;> (first | with_reducible assumption | omega | (simp only [bz]; omega) | (simp (maxDischargeDepth := 8) only [bb]; done)))); intro _)))
  refine loop_go (fun i => {T := tp [(0, .sl .snap 1 q c (rB S)), (1, vi p), (5, .ref 0 [] 1 0 i (capG i)), (6, vi i)], H := hp [some ((colL S p i).map (iv .u8))], nx := 1}) q ?_ (lt_LF (by omega)) (fun i hi Kn hK => ?_) (fun Kn => ?_)
  · simp only [vv, ff, norm, Array.toList, List.map, Option.isSome_none, bne_self_eq_false, reduceIte, reduceCtorEq, Nat.reduceEqDiff, Nat.reduceAdd, Nat.reduceMul, Nat.reduceSub, Nat.reduceBEq, Nat.reduceLeDiff, Int.reduceEq, Int.reduceLT, Int.reduceLE, Int.reduceGE, Int.reduceGT, Int.reduceBEq, Int.reduceBNe, Int.reduceToNat, Int.reduceNeg, Int.reduceSub, Int.reduceAdd, Int.reduceMul, finish, qf0, resOf, resa, qf1, qf2, qf3, keep, qf4, qf5, qf6, qe9, qf, Int.natCast_zero, capG_zero, colL, List.range_zero, List.map_nil]
  · have hg := rB_g1 S (i := i) (by omega)
    obtain ⟨l1, l2⟩ := hSr i hi
    rw [l1] at hg
    have hk : isK .u8 ((sA S i).map (iv .u8)) = true := isK_map _ _
    have hn : ((sA S i).map (iv .u8)).length = lo := by rw [List.length_map, l1]
    have hb : B8 (un ((sA S i).map (iv .u8))) := by rw [un_map]; exact l2
    have hat : at0 (un ((sA S i).map (iv .u8))) p = at0 (sA S i) p := by rw [un_map]
    have hsu := colL_succ S p i
    have hln : ((colL S p i).map (iv .u8)).length = i := by rw [List.length_map, colL_len]
    have how := anyOwn_iv .u8 (colL S p i)
    generalize (sA S i).map (iv .u8) = zs at *
    generalize at0 (sA S i) p = v at *
    (have fz := ga9 hg hrl hk hn hb hat hsu hln how; repeat' (first | simp (maxDischargeDepth := 8) only [go_sem, rr, reduceIte, reduceCtorEq, Nat.reduceEqDiff, Nat.reduceAdd, Nat.reduceMul, Nat.reduceSub, Nat.reduceBEq, Nat.reduceLeDiff, Int.reduceEq, Int.reduceLT, Int.reduceLE, Int.reduceGE, Int.reduceGT, Int.reduceBEq, Int.reduceBNe, Int.reduceToNat, Int.reduceNeg, Int.reduceSub, Int.reduceAdd, Int.reduceMul, fz] | (with_reducible refine qg9 ?_ ?_; focus (first | (simp (maxDischargeDepth := 8) only [bb, kk, fz]; done) | kernel_rfl)) | ((with_reducible first | refine qf7 ?_ ?_ | refine qf8 ?_ ?_ | refine qf9 ?_ ?_ | refine qg ?_ ?_ | refine qg0 ?_ ?_ | refine qg1 ?_ ?_ | refine qg2 ?_ ?_); focus (first | with_reducible assumption | omega | (simp only [bz, fz]; omega))) | ((with_reducible first | refine qg3 ?_ ?_ | refine qg4 ?_ ?_ | refine qg5 ?_ ?_); focus (first | with_reducible assumption | omega | (simp only [bz, fz]; omega))) | ((with_reducible first | refine g1_u8w ?_ ?_ | refine qg7 ?_ ?_); (focus ((repeat' (with_reducible apply And.intro)) <;> (first | with_reducible assumption | omega | (simp only [bz, fz]; omega) | (simp (maxDischargeDepth := 8) only [bb, fz]; done)))); intro _)))
    refine hK _ ?_
    simp only [vv, ff, norm, Array.toList, List.map, Option.isSome_none, bne_self_eq_false, reduceIte, reduceCtorEq, Nat.reduceEqDiff, Nat.reduceAdd, Nat.reduceMul, Nat.reduceSub, Nat.reduceBEq, Nat.reduceLeDiff, Int.reduceEq, Int.reduceLT, Int.reduceLE, Int.reduceGE, Int.reduceGT, Int.reduceBEq, Int.reduceBNe, Int.reduceToNat, Int.reduceNeg, Int.reduceSub, Int.reduceAdd, Int.reduceMul, finish, qf0, resOf, resa, qf1, qf2, qf3, keep, qf4, qf5, qf6, qe9, qf, Int.natCast_add, cst1, capG_one, capG_succ]
  · have how := noSnapL_iv .u8 (colL S p q)
    (repeat' (first | simp (maxDischargeDepth := 8) only [go_sem, rr, reduceIte, reduceCtorEq, Nat.reduceEqDiff, Nat.reduceAdd, Nat.reduceMul, Nat.reduceSub, Nat.reduceBEq, Nat.reduceLeDiff, Int.reduceEq, Int.reduceLT, Int.reduceLE, Int.reduceGE, Int.reduceGT, Int.reduceBEq, Int.reduceBNe, Int.reduceToNat, Int.reduceNeg, Int.reduceSub, Int.reduceAdd, Int.reduceMul, how] | (with_reducible refine qg9 ?_ ?_; focus (first | (simp (maxDischargeDepth := 8) only [bb, kk, how]; done) | kernel_rfl)) | ((with_reducible first | refine qf7 ?_ ?_ | refine qf8 ?_ ?_ | refine qf9 ?_ ?_ | refine qg ?_ ?_ | refine qg0 ?_ ?_ | refine qg1 ?_ ?_ | refine qg2 ?_ ?_); focus (first | with_reducible assumption | omega | (simp only [bz, how]; omega))) | ((with_reducible first | refine qg3 ?_ ?_ | refine qg4 ?_ ?_ | refine qg5 ?_ ?_); focus (first | with_reducible assumption | omega | (simp only [bz, how]; omega))) | ((with_reducible first | refine g1_u8w ?_ ?_ | refine qg7 ?_ ?_); (focus ((repeat' (with_reducible apply And.intro)) <;> (first | with_reducible assumption | omega | (simp only [bz, how]; omega) | (simp (maxDischargeDepth := 8) only [bb, how]; done)))); intro _)))
def lgV (X Y : List Int) (x : Int) : Nat → Int
  | 0 => 0
  | i + 1 => x8 (lgV X Y x i) (m8 (at0 Y i) (wt X x i))
theorem lgV_b {X Y : List Int} (hY : B8 Y) (x : Int) : ∀ i, 0 ≤ lgV X Y x i ∧ lgV X Y x i < 256
  | 0 => by simp [lgV]
  | i + 1 => by rw [lgV]; exact x8_b (lgV_b hY x i) (m8_b _ (hY.at0 i))
end Go.Proofs.Ythgopooldcheeaa.VH.S
end

section
namespace Go.Proofs.Ythgopooldcheeaa.VH.S
open Go.Proofs
set_option maxRecDepth 100000
set_option maxHeartbeats 8000000
set_option linter.unusedSimpArgs false

/- Values between bytes. -/
/- reducible -/
theorem e23 (d : Nat) (tg tg' : Tg) (c c' : Option Nat) (cs ds : List AV) (n : Nat) (x : Int) (hk : isK .u8 cs = true) (hn : cs.length = n) (hb : B8 (un cs)) (hk2 : isK .u8 ds = true) (hn2 : ds.length = n) (hb2 : B8 (un ds)) (h0 : 0 < n) (hl : n ≤ 60) (hx : 0 ≤ x ∧ x < 256) (hd : ∀ i k, i < n → k < n → k ≠ i → at0 (un cs) k ≠ at0 (un cs) i) : evFun E (d+4) 23 [.sl tg 1 n c cs, .sl tg' 1 n c' ds, iv .u8 x] [] = some (.tup [iv .u8 (lgV (un cs) (un ds) x n), vb true], []) := by
  refine evFun_body b23 ?_
  have hlu : (un cs).length = n := by rw [un_len, hn]
  (repeat' (first | simp (maxDischargeDepth := 8) only [go_sem, rr, reduceIte, reduceCtorEq, Nat.reduceEqDiff, Nat.reduceAdd, Nat.reduceMul, Nat.reduceSub, Nat.reduceBEq, Nat.reduceLeDiff, Int.reduceEq, Int.reduceLT, Int.reduceLE, Int.reduceGE, Int.reduceGT, Int.reduceBEq, Int.reduceBNe, Int.reduceToNat, Int.reduceNeg, Int.reduceSub, Int.reduceAdd, Int.reduceMul, Try.f23] | (with_reducible refine qg9 ?_ ?_; focus (first | (simp (maxDischargeDepth := 8) only [bb, kk]; done) | kernel_rfl)) | ((with_reducible first | refine qf7 ?_ ?_ | refine qf8 ?_ ?_ | refine qf9 ?_ ?_ | refine qg ?_ ?_ | refine qg0 ?_ ?_ | refine qg1 ?_ ?_ | refine qg2 ?_ ?_); focus (first | with_reducible assumption | omega | (simp only [bz]; omega))) | ((with_reducible first | refine qg3 ?_ ?_ | refine qg4 ?_ ?_ | refine qg5 ?_ ?_); focus (first | with_reducible assumption | omega | (simp only [bz]; omega))) | ((with_reducible first | refine g1_u8w ?_ ?_ | refine qg7 ?_ ?_); (focus ((repeat' (with_reducible apply And.intro)) <;> (first | with_reducible assumption | omega | (simp only [bz]; omega) | (simp (maxDischargeDepth := 8) only [bb]; done)))); intro _) | (with_reducible apply call_elim; focus ((with_reducible first | apply e30) <;> (first | with_reducible assumption | omega | (simp only [bz]; omega) | (simp (maxDischargeDepth := 8) only [bb]; done))))))
  refine loop_go (fun i => {T := tp [(0, .sl tg 1 n c cs), (1, .sl tg' 1 n c' ds), (2, iv .u8 x), (8, iv .u8 (lgV (un cs) (un ds) x i)), (9, vi i)], H := hp [], nx := 0}) n ?_ (lt_LF (by omega)) (fun i hi Kn hK => ?_) (fun Kn => ?_)
  · simp only [vv, ff, norm, Array.toList, List.map, Option.isSome_none, bne_self_eq_false, reduceIte, reduceCtorEq, Nat.reduceEqDiff, Nat.reduceAdd, Nat.reduceMul, Nat.reduceSub, Nat.reduceBEq, Nat.reduceLeDiff, Int.reduceEq, Int.reduceLT, Int.reduceLE, Int.reduceGE, Int.reduceGT, Int.reduceBEq, Int.reduceBNe, Int.reduceToNat, Int.reduceNeg, Int.reduceSub, Int.reduceAdd, Int.reduceMul, finish, qf0, resOf, resa, qf1, qf2, qf3, keep, qf4, qf5, qf6, qe9, qf, Int.natCast_zero, lgV]
  · have ha := hb.at0 i
    (have fz := ga3 hk hn hb; repeat' (first | simp (maxDischargeDepth := 8) only [go_sem, rr, reduceIte, reduceCtorEq, Nat.reduceEqDiff, Nat.reduceAdd, Nat.reduceMul, Nat.reduceSub, Nat.reduceBEq, Nat.reduceLeDiff, Int.reduceEq, Int.reduceLT, Int.reduceLE, Int.reduceGE, Int.reduceGT, Int.reduceBEq, Int.reduceBNe, Int.reduceToNat, Int.reduceNeg, Int.reduceSub, Int.reduceAdd, Int.reduceMul, fz, bin_xor8] | (with_reducible refine qg9 ?_ ?_; focus (first | (simp (maxDischargeDepth := 8) only [bb, kk, fz, bin_xor8]; done) | kernel_rfl)) | ((with_reducible first | refine qf7 ?_ ?_ | refine qf8 ?_ ?_ | refine qf9 ?_ ?_ | refine qg ?_ ?_ | refine qg0 ?_ ?_ | refine qg1 ?_ ?_ | refine qg2 ?_ ?_); focus (first | with_reducible assumption | omega | (simp only [bz, fz, bin_xor8]; omega))) | ((with_reducible first | refine qg3 ?_ ?_ | refine qg4 ?_ ?_ | refine qg5 ?_ ?_); focus (first | with_reducible assumption | omega | (simp only [bz, fz, bin_xor8]; omega))) | ((with_reducible first | refine g1_u8w ?_ ?_ | refine qg7 ?_ ?_); (focus ((repeat' (with_reducible apply And.intro)) <;> (first | with_reducible assumption | omega | (simp only [bz, fz, bin_xor8]; omega) | (simp (maxDischargeDepth := 8) only [bb, fz, bin_xor8]; done)))); intro _)))
    refine loop_go (fun k => {T := tp [(0, .sl tg 1 n c cs), (1, .sl tg' 1 n c' ds), (2, iv .u8 x), (8, iv .u8 (lgV (un cs) (un ds) x i)), (9, vi i), (10, iv .u8 (wS (un cs) x (at0 (un cs) i) i k).1), (11, iv .u8 (wS (un cs) x (at0 (un cs) i) i k).2), (12, vi k)], H := hp [], nx := 0}) n ?_ (lt_LF (by omega)) (fun k hi2 Kn2 hK2 => ?_) (fun Kn2 => ?_)
    · simp only [vv, ff, norm, Array.toList, List.map, Option.isSome_none, bne_self_eq_false, reduceIte, reduceCtorEq, Nat.reduceEqDiff, Nat.reduceAdd, Nat.reduceMul, Nat.reduceSub, Nat.reduceBEq, Nat.reduceLeDiff, Int.reduceEq, Int.reduceLT, Int.reduceLE, Int.reduceGE, Int.reduceGT, Int.reduceBEq, Int.reduceBNe, Int.reduceToNat, Int.reduceNeg, Int.reduceSub, Int.reduceAdd, Int.reduceMul, finish, qf0, resOf, resa, qf1, qf2, qf3, keep, qf4, qf5, qf6, qe9, qf, Int.natCast_zero, wS]
    · have hb1 := hb.at0 k
      obtain ⟨u1, u2⟩ := wS_b hb (x := x) (a := at0 (un cs) i) i k
      have hx1 := xor8_b hx hb1
      have hx2 := xor8_b ha hb1
      have hm1 := fun d => q35 d _ _ u1 (x8_b hx hb1)
      have hm2 := fun d => q35 d _ _ u2 (x8_b ha hb1)
      by_cases hik : i = k
      · have hn1 : wS (un cs) x (at0 (un cs) i) i (k + 1) = wS (un cs) x (at0 (un cs) i) i k := by rw [wS, if_pos hik]
        rw [hn1] at hK2
        generalize wS (un cs) x (at0 (un cs) i) i k = y at *
        (have fz := ga3 hk hn hb; repeat' (first | simp (maxDischargeDepth := 8) only [go_sem, rr, reduceIte, reduceCtorEq, Nat.reduceEqDiff, Nat.reduceAdd, Nat.reduceMul, Nat.reduceSub, Nat.reduceBEq, Nat.reduceLeDiff, Int.reduceEq, Int.reduceLT, Int.reduceLE, Int.reduceGE, Int.reduceGT, Int.reduceBEq, Int.reduceBNe, Int.reduceToNat, Int.reduceNeg, Int.reduceSub, Int.reduceAdd, Int.reduceMul, fz, bin_xor8] | (with_reducible refine qg9 ?_ ?_; focus (first | (simp (maxDischargeDepth := 8) only [bb, kk, fz, bin_xor8]; done) | kernel_rfl)) | ((with_reducible first | refine qf7 ?_ ?_ | refine qf8 ?_ ?_ | refine qf9 ?_ ?_ | refine qg ?_ ?_ | refine qg0 ?_ ?_ | refine qg1 ?_ ?_ | refine qg2 ?_ ?_); focus (first | with_reducible assumption | omega | (simp only [bz, fz, bin_xor8]; omega))) | ((with_reducible first | refine qg3 ?_ ?_ | refine qg4 ?_ ?_ | refine qg5 ?_ ?_); focus (first | with_reducible assumption | omega | (simp only [bz, fz, bin_xor8]; omega))) | ((with_reducible first | refine g1_u8w ?_ ?_ | refine qg7 ?_ ?_); (focus ((repeat' (with_reducible apply And.intro)) <;> (first | with_reducible assumption | omega | (simp only [bz, fz, bin_xor8]; omega) | (simp (maxDischargeDepth := 8) only [bb, fz, bin_xor8]; done)))); intro _)))
        refine hK2 _ ?_
        simp only [vv, ff, norm, Array.toList, List.map, Option.isSome_none, bne_self_eq_false, reduceIte, reduceCtorEq, Nat.reduceEqDiff, Nat.reduceAdd, Nat.reduceMul, Nat.reduceSub, Nat.reduceBEq, Nat.reduceLeDiff, Int.reduceEq, Int.reduceLT, Int.reduceLE, Int.reduceGE, Int.reduceGT, Int.reduceBEq, Int.reduceBNe, Int.reduceToNat, Int.reduceNeg, Int.reduceSub, Int.reduceAdd, Int.reduceMul, finish, qf0, resOf, resa, qf1, qf2, qf3, keep, qf4, qf5, qf6, qe9, qf, Int.natCast_add, cst1]
      · have hn1 : wS (un cs) x (at0 (un cs) i) i (k + 1) = (m8 (wS (un cs) x (at0 (un cs) i) i k).1 (x8 x (at0 (un cs) k)), m8 (wS (un cs) x (at0 (un cs) i) i k).2 (x8 (at0 (un cs) i) (at0 (un cs) k))) := by rw [wS, if_neg hik]
        rw [hn1] at hK2
        have hne := hd i k hi hi2 (fun e => hik e.symm)
        generalize wS (un cs) x (at0 (un cs) i) i k = y at *
        (have fz := ga7 hk hn hb hx1 hx2 hm1 hm2; repeat' (first | simp (maxDischargeDepth := 8) only [go_sem, rr, reduceIte, reduceCtorEq, Nat.reduceEqDiff, Nat.reduceAdd, Nat.reduceMul, Nat.reduceSub, Nat.reduceBEq, Nat.reduceLeDiff, Int.reduceEq, Int.reduceLT, Int.reduceLE, Int.reduceGE, Int.reduceGT, Int.reduceBEq, Int.reduceBNe, Int.reduceToNat, Int.reduceNeg, Int.reduceSub, Int.reduceAdd, Int.reduceMul, fz, bin_xor8] | (with_reducible refine qg9 ?_ ?_; focus (first | (simp (maxDischargeDepth := 8) only [bb, kk, fz, bin_xor8]; done) | kernel_rfl)) | ((with_reducible first | refine qf7 ?_ ?_ | refine qf8 ?_ ?_ | refine qf9 ?_ ?_ | refine qg ?_ ?_ | refine qg0 ?_ ?_ | refine qg1 ?_ ?_ | refine qg2 ?_ ?_); focus (first | with_reducible assumption | omega | (simp only [bz, fz, bin_xor8]; omega))) | ((with_reducible first | refine qg3 ?_ ?_ | refine qg4 ?_ ?_ | refine qg5 ?_ ?_); focus (first | with_reducible assumption | omega | (simp only [bz, fz, bin_xor8]; omega))) | ((with_reducible first | refine g1_u8w ?_ ?_ | refine qg7 ?_ ?_); (focus ((repeat' (with_reducible apply And.intro)) <;> (first | with_reducible assumption | omega | (simp only [bz, fz, bin_xor8]; omega) | (simp (maxDischargeDepth := 8) only [bb, fz, bin_xor8]; done)))); intro _)))
        refine hK2 _ ?_
        simp only [vv, ff, norm, Array.toList, List.map, Option.isSome_none, bne_self_eq_false, reduceIte, reduceCtorEq, Nat.reduceEqDiff, Nat.reduceAdd, Nat.reduceMul, Nat.reduceSub, Nat.reduceBEq, Nat.reduceLeDiff, Int.reduceEq, Int.reduceLT, Int.reduceLE, Int.reduceGE, Int.reduceGT, Int.reduceBEq, Int.reduceBNe, Int.reduceToNat, Int.reduceNeg, Int.reduceSub, Int.reduceAdd, Int.reduceMul, finish, qf0, resOf, resa, qf1, qf2, qf3, keep, qf4, qf5, qf6, qe9, qf, Int.natCast_add, cst1]
    · obtain ⟨u1, u2⟩ := wS_b hb (x := x) (a := at0 (un cs) i) i n
      have hm1 := fun d => q35 d _ _ u1 (v8_b u2)
      have hw : m8 (wS (un cs) x (at0 (un cs) i) i n).1 (v8 (wS (un cs) x (at0 (un cs) i) i n).2) = wt (un cs) x i := by rw [wt, hlu]
      rw [hw] at hm1
      have hI := fun d => e36 d _ u2
      have hy := hb2.at0 i
      have hwb := wt_b hb x i
      have hm2 := fun d => q35 d _ _ hy hwb
      have hxo := xor8_b (lgV_b (X := un cs) hb2 x i) (m8_b (wt (un cs) x i) hy)
      have hn1 : lgV (un cs) (un ds) x (i + 1) = x8 (lgV (un cs) (un ds) x i) (m8 (at0 (un ds) i) (wt (un cs) x i)) := rfl
      rw [hn1] at hK
      generalize wS (un cs) x (at0 (un cs) i) i n = y at *
      generalize lgV (un cs) (un ds) x i = z at *
      generalize wt (un cs) x i = w at *
      (have fz := ga10 hk hn hb hk2 hn2 hb2 hI hm1 hm2 hxo; repeat' (first | simp (maxDischargeDepth := 8) only [go_sem, rr, reduceIte, reduceCtorEq, Nat.reduceEqDiff, Nat.reduceAdd, Nat.reduceMul, Nat.reduceSub, Nat.reduceBEq, Nat.reduceLeDiff, Int.reduceEq, Int.reduceLT, Int.reduceLE, Int.reduceGE, Int.reduceGT, Int.reduceBEq, Int.reduceBNe, Int.reduceToNat, Int.reduceNeg, Int.reduceSub, Int.reduceAdd, Int.reduceMul, fz, bin_xor8] | (with_reducible refine qg9 ?_ ?_; focus (first | (simp (maxDischargeDepth := 8) only [bb, kk, fz, bin_xor8]; done) | kernel_rfl)) | ((with_reducible first | refine qf7 ?_ ?_ | refine qf8 ?_ ?_ | refine qf9 ?_ ?_ | refine qg ?_ ?_ | refine qg0 ?_ ?_ | refine qg1 ?_ ?_ | refine qg2 ?_ ?_); focus (first | with_reducible assumption | omega | (simp only [bz, fz, bin_xor8]; omega))) | ((with_reducible first | refine qg3 ?_ ?_ | refine qg4 ?_ ?_ | refine qg5 ?_ ?_); focus (first | with_reducible assumption | omega | (simp only [bz, fz, bin_xor8]; omega))) | ((with_reducible first | refine g1_u8w ?_ ?_ | refine qg7 ?_ ?_); (focus ((repeat' (with_reducible apply And.intro)) <;> (first | with_reducible assumption | omega | (simp only [bz, fz, bin_xor8]; omega) | (simp (maxDischargeDepth := 8) only [bb, fz, bin_xor8]; done)))); intro _)))
      refine hK _ ?_
      simp only [vv, ff, norm, Array.toList, List.map, Option.isSome_none, bne_self_eq_false, reduceIte, reduceCtorEq, Nat.reduceEqDiff, Nat.reduceAdd, Nat.reduceMul, Nat.reduceSub, Nat.reduceBEq, Nat.reduceLeDiff, Int.reduceEq, Int.reduceLT, Int.reduceLE, Int.reduceGE, Int.reduceGT, Int.reduceBEq, Int.reduceBNe, Int.reduceToNat, Int.reduceNeg, Int.reduceSub, Int.reduceAdd, Int.reduceMul, finish, qf0, resOf, resa, qf1, qf2, qf3, keep, qf4, qf5, qf6, qe9, qf, Int.natCast_add, cst1]
  · generalize lgV (un cs) (un ds) x n = z
    (repeat' (first | simp (maxDischargeDepth := 8) only [go_sem, rr, reduceIte, reduceCtorEq, Nat.reduceEqDiff, Nat.reduceAdd, Nat.reduceMul, Nat.reduceSub, Nat.reduceBEq, Nat.reduceLeDiff, Int.reduceEq, Int.reduceLT, Int.reduceLE, Int.reduceGE, Int.reduceGT, Int.reduceBEq, Int.reduceBNe, Int.reduceToNat, Int.reduceNeg, Int.reduceSub, Int.reduceAdd, Int.reduceMul] | (with_reducible refine qg9 ?_ ?_; focus (first | (simp (maxDischargeDepth := 8) only [bb, kk]; done) | kernel_rfl)) | ((with_reducible first | refine qf7 ?_ ?_ | refine qf8 ?_ ?_ | refine qf9 ?_ ?_ | refine qg ?_ ?_ | refine qg0 ?_ ?_ | refine qg1 ?_ ?_ | refine qg2 ?_ ?_); focus (first | with_reducible assumption | omega | (simp only [bz]; omega))) | ((with_reducible first | refine qg3 ?_ ?_ | refine qg4 ?_ ?_ | refine qg5 ?_ ?_); focus (first | with_reducible assumption | omega | (simp only [bz]; omega))) | ((with_reducible first | refine g1_u8w ?_ ?_ | refine qg7 ?_ ?_); (focus ((repeat' (with_reducible apply And.intro)) <;> (first | with_reducible assumption | omega | (simp only [bz]; omega) | (simp (maxDischargeDepth := 8) only [bb]; done)))); intro _)))
end Go.Proofs.Ythgopooldcheeaa.VH.S
end

