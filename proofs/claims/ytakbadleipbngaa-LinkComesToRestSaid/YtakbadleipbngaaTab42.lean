/-
  The table of the program's types (written by a program of mine). Conditions: none.
-/
import Derived.Test.YtakbadleipbngaaAb3
import Derived.Test.YtakbadleipbngaaProg
set_option linter.all false
namespace Go.Proofs.Ytakbadleipbngaa
open Go.RowKit
def tblL : List (Nat × TyE) := [
  (1, ⟨.other, 1, 8, [.nilFunc]⟩),
  (2, ⟨.int .i64, 1, 8, [.int .i64 (0)]⟩),
  (3, ⟨.int .i64, 1, 8, [.int .i64 (0)]⟩),
  (4, ⟨.bool, 1, 1, [.bool false]⟩),
  (5, ⟨.int .u8, 1, 1, [.int .u8 (0)]⟩),
  (6, ⟨.int .u8, 1, 1, [.int .u8 (0)]⟩),
  (7, ⟨.struct [(0, 2), (1, 3), (2, 4), (3, 6)], 4, 24, [.int .i64 (0), .int .i64 (0), .bool false, .int .u8 (0)]⟩),
  (8, ⟨.struct [(0, 2), (1, 3), (2, 4), (3, 6)], 4, 24, [.int .i64 (0), .int .i64 (0), .bool false, .int .u8 (0)]⟩),
  (9, ⟨.str, 1, 16, [.string ⟨#[]⟩]⟩),
  (10, ⟨.str, 1, 16, [.string ⟨#[]⟩]⟩),
  (11, ⟨.str, 1, 16, [.string ⟨#[]⟩]⟩),
  (12, ⟨.int .u64, 1, 8, [.int .u64 (0)]⟩),
  (13, ⟨.struct [(0, 9), (1, 12)], 2, 24, [.string ⟨#[]⟩, .int .u64 (0)]⟩),
  (14, ⟨.struct [(0, 9), (1, 12)], 2, 24, [.string ⟨#[]⟩, .int .u64 (0)]⟩),
  (15, ⟨.other, 1, 8, [.pointer none]⟩),
  (16, ⟨.other, 1, 8, [.pointer none]⟩),
  (17, ⟨.other, 1, 8, [.pointer none]⟩),
  (18, ⟨.struct [(0, 17)], 1, 8, [.pointer none]⟩),
  (19, ⟨.struct [(0, 17)], 1, 8, [.pointer none]⟩),
  (21, ⟨.int .i32, 1, 4, [.int .i32 (0)]⟩),
  (22, ⟨.slice 9, 1, 24, [.slice none 0 0]⟩),
  (23, ⟨.slice 74, 1, 24, [.slice none 0 0]⟩),
  (24, ⟨.struct [(0, 3), (1, 22), (2, 3), (3, 23)], 4, 64, [.int .i64 (0), .slice none 0 0, .int .i64 (0), .slice none 0 0]⟩),
  (25, ⟨.struct [(0, 3), (1, 22), (2, 3), (3, 23)], 4, 64, [.int .i64 (0), .slice none 0 0, .int .i64 (0), .slice none 0 0]⟩),
  (26, ⟨.struct [(0, 3), (1, 3), (2, 9)], 3, 32, [.int .i64 (0), .int .i64 (0), .string ⟨#[]⟩]⟩),
  (27, ⟨.struct [(0, 3), (1, 3), (2, 9)], 3, 32, [.int .i64 (0), .int .i64 (0), .string ⟨#[]⟩]⟩),
  (28, ⟨.other, 1, 8, [.nilFunc]⟩),
  (29, ⟨.int .i64, 1, 8, [.int .i64 (0)]⟩),
  (30, ⟨.other, 1, 8, [.nilFunc]⟩),
  (31, ⟨.other, 1, 8, [.nilFunc]⟩),
  (33, ⟨.other, 1, 8, [.nilFunc]⟩),
  (34, ⟨.struct [(0, 25), (4, 29)], 5, 72, [.int .i64 (0), .slice none 0 0, .int .i64 (0), .slice none 0 0, .int .i64 (0)]⟩),
  (35, ⟨.struct [(0, 25), (4, 29)], 5, 72, [.int .i64 (0), .slice none 0 0, .int .i64 (0), .slice none 0 0, .int .i64 (0)]⟩),
  (36, ⟨.other, 1, 8, [.nilFunc]⟩),
  (38, ⟨.other, 1, 8, [.nilFunc]⟩),
  (39, ⟨.struct [(0, 25), (4, 22)], 5, 88, [.int .i64 (0), .slice none 0 0, .int .i64 (0), .slice none 0 0, .slice none 0 0]⟩),
  (40, ⟨.struct [(0, 25), (4, 22)], 5, 88, [.int .i64 (0), .slice none 0 0, .int .i64 (0), .slice none 0 0, .slice none 0 0]⟩),
  (41, ⟨.other, 1, 8, [.nilFunc]⟩),
  (42, ⟨.other, 1, 8, [.nilFunc]⟩),
  (43, ⟨.other, 1, 8, [.nilFunc]⟩),
  (44, ⟨.other, 1, 8, [.nilFunc]⟩),
  (45, ⟨.slice 27, 1, 24, [.slice none 0 0]⟩),
  (46, ⟨.other, 1, 8, [.nilFunc]⟩),
  (47, ⟨.other, 1, 8, [.nilFunc]⟩),
  (48, ⟨.slice 55, 1, 24, [.slice none 0 0]⟩),
  (49, ⟨.arr 2 22, 2, 48, [.slice none 0 0, .slice none 0 0]⟩),
  (50, ⟨.other, 1, 8, [.nilFunc]⟩),
  (51, ⟨.arr 2 25, 8, 128, [.int .i64 (0), .slice none 0 0, .int .i64 (0), .slice none 0 0, .int .i64 (0), .slice none 0 0, .int .i64 (0), .slice none 0 0]⟩),
  (52, ⟨.arr 2 45, 2, 48, [.slice none 0 0, .slice none 0 0]⟩),
  (53, ⟨.int .u16, 1, 2, [.int .u16 (0)]⟩),
  (54, ⟨.struct [(0, 5), (1, 5), (2, 53)], 3, 4, [.int .u8 (0), .int .u8 (0), .int .u16 (0)]⟩),
  (55, ⟨.struct [(0, 5), (1, 5), (2, 53)], 3, 4, [.int .u8 (0), .int .u8 (0), .int .u16 (0)]⟩),
  (56, ⟨.other, 1, 8, [.nilFunc]⟩),
  (57, ⟨.other, 1, 8, [.nilFunc]⟩),
  (58, ⟨.slice 5, 1, 24, [.slice none 0 0]⟩),
  (60, ⟨.other, 1, 8, [.nilFunc]⟩),
  (61, ⟨.struct [(0, 58), (1, 29)], 2, 32, [.slice none 0 0, .int .i64 (0)]⟩),
  (62, ⟨.struct [(0, 58), (1, 29)], 2, 32, [.slice none 0 0, .int .i64 (0)]⟩),
  (63, ⟨.other, 1, 8, [.nilFunc]⟩),
  (64, ⟨.other, 1, 8, [.nilFunc]⟩),
  (65, ⟨.other, 1, 8, [.nilFunc]⟩),
  (66, ⟨.other, 1, 8, [.nilFunc]⟩),
  (67, ⟨.struct [(0, 25), (4, 25), (8, 22), (9, 22), (10, 22), (11, 22), (12, 45)], 13, 248, [.int .i64 (0), .slice none 0 0, .int .i64 (0), .slice none 0 0, .int .i64 (0), .slice none 0 0, .int .i64 (0), .slice none 0 0, .slice none 0 0, .slice none 0 0, .slice none 0 0, .slice none 0 0, .slice none 0 0]⟩),
  (68, ⟨.struct [(0, 25), (4, 25), (8, 22), (9, 22), (10, 22), (11, 22), (12, 45)], 13, 248, [.int .i64 (0), .slice none 0 0, .int .i64 (0), .slice none 0 0, .int .i64 (0), .slice none 0 0, .int .i64 (0), .slice none 0 0, .slice none 0 0, .slice none 0 0, .slice none 0 0, .slice none 0 0, .slice none 0 0]⟩),
  (69, ⟨.arr 2 68, 26, 496, [.int .i64 (0), .slice none 0 0, .int .i64 (0), .slice none 0 0, .int .i64 (0), .slice none 0 0, .int .i64 (0), .slice none 0 0, .slice none 0 0, .slice none 0 0, .slice none 0 0, .slice none 0 0, .slice none 0 0, .int .i64 (0), .slice none 0 0, .int .i64 (0), .slice none 0 0, .int .i64 (0), .slice none 0 0, .int .i64 (0), .slice none 0 0, .slice none 0 0, .slice none 0 0, .slice none 0 0, .slice none 0 0, .slice none 0 0]⟩),
  (71, ⟨.other, 1, 8, [.nilFunc]⟩),
  (72, ⟨.other, 1, 8, [.nilFunc]⟩),
  (73, ⟨.struct [(0, 3), (1, 9)], 2, 24, [.int .i64 (0), .string ⟨#[]⟩]⟩),
  (74, ⟨.struct [(0, 3), (1, 9)], 2, 24, [.int .i64 (0), .string ⟨#[]⟩]⟩),
  (75, ⟨.other, 1, 8, [.nilFunc]⟩),
  (76, ⟨.other, 1, 8, [.nilFunc]⟩),
  (77, ⟨.other, 1, 8, [.nilFunc]⟩),
  (78, ⟨.other, 1, 8, [.pointer none]⟩),
  (79, ⟨.other, 1, 8, [.nilFunc]⟩),
  (80, ⟨.other, 1, 8, [.nilFunc]⟩),
  (81, ⟨.struct [(0, 79), (1, 80)], 2, 16, [.nilFunc, .nilFunc]⟩),
  (82, ⟨.struct [(0, 79), (1, 80)], 2, 16, [.nilFunc, .nilFunc]⟩),
  (83, ⟨.other, 1, 8, [.nilFunc]⟩),
  (84, ⟨.slice 82, 1, 24, [.slice none 0 0]⟩),
  (85, ⟨.other, 1, 8, [.nilFunc]⟩),
  (86, ⟨.slice 3, 1, 24, [.slice none 0 0]⟩),
  (87, ⟨.other, 1, 8, [.nilFunc]⟩),
  (88, ⟨.other, 1, 8, [.nilFunc]⟩),
  (89, ⟨.other, 1, 8, [.nilFunc]⟩),
  (90, ⟨.other, 1, 8, [.nilFunc]⟩),
  (91, ⟨.other, 1, 8, [.nilFunc]⟩),
  (92, ⟨.other, 1, 8, [.pointer none]⟩),
  (93, ⟨.other, 1, 8, [.pointer none]⟩),
  (94, ⟨.other, 1, 8, [.nilFunc]⟩),
  (95, ⟨.other, 1, 8, [.nilFunc]⟩),
  (96, ⟨.other, 1, 8, [.nilFunc]⟩),
  (97, ⟨.other, 1, 8, [.nilFunc]⟩),
  (98, ⟨.other, 1, 8, [.nilFunc]⟩),
  (99, ⟨.other, 1, 8, [.nilFunc]⟩),
  (100, ⟨.other, 1, 8, [.nilFunc]⟩),
  (101, ⟨.other, 1, 8, [.nilFunc]⟩),
  (102, ⟨.slice 58, 1, 24, [.slice none 0 0]⟩),
  (103, ⟨.other, 1, 8, [.nilFunc]⟩),
  (104, ⟨.int .u64, 1, 8, [.int .u64 (0)]⟩),
  (105, ⟨.int .u64, 1, 8, [.int .u64 (0)]⟩),
  (106, ⟨.other, 1, 8, [.nilFunc]⟩),
  (107, ⟨.other, 1, 8, [.nilFunc]⟩),
  (108, ⟨.other, 1, 8, [.nilFunc]⟩),
  (111, ⟨.other, 1, 8, [.nilFunc]⟩),
  (112, ⟨.other, 1, 8, [.nilFunc]⟩),
  (114, ⟨.other, 1, 8, [.nilFunc]⟩),
  (115, ⟨.other, 1, 8, [.nilFunc]⟩),
  (116, ⟨.other, 1, 8, [.nilFunc]⟩),
  (118, ⟨.other, 1, 8, [.nilFunc]⟩),
  (119, ⟨.struct [(0, 17), (1, 17), (2, 17), (3, 9)], 4, 40, [.pointer none, .pointer none, .pointer none, .string ⟨#[]⟩]⟩),
  (120, ⟨.struct [(0, 17), (1, 17), (2, 17), (3, 9)], 4, 40, [.pointer none, .pointer none, .pointer none, .string ⟨#[]⟩]⟩),
  (121, ⟨.arr 0 16, 0, 0, []⟩),
  (122, ⟨.struct [(0, 121)], 0, 0, []⟩),
  (123, ⟨.struct [(0, 121)], 0, 0, []⟩),
  (124, ⟨.other, 1, 8, [.nilFunc]⟩),
  (125, ⟨.int .u32, 1, 4, [.int .u32 (0)]⟩),
  (126, ⟨.int .u8, 1, 1, [.int .u8 (0)]⟩),
  (127, ⟨.int .u8, 1, 1, [.int .u8 (0)]⟩),
  (128, ⟨.other, 1, 8, [.nilFunc]⟩),
  (129, ⟨.other, 1, 8, [.pointer none]⟩),
  (130, ⟨.int .i32, 1, 4, [.int .i32 (0)]⟩),
  (131, ⟨.int .i32, 1, 4, [.int .i32 (0)]⟩),
  (132, ⟨.struct [(0, 12), (1, 12), (2, 125), (3, 126), (4, 5), (5, 5), (6, 127), (7, 128), (8, 129), (9, 130), (10, 131)], 11, 48, [.int .u64 (0), .int .u64 (0), .int .u32 (0), .int .u8 (0), .int .u8 (0), .int .u8 (0), .int .u8 (0), .nilFunc, .pointer none, .int .i32 (0), .int .i32 (0)]⟩),
  (133, ⟨.struct [(0, 12), (1, 12), (2, 125), (3, 126), (4, 5), (5, 5), (6, 127), (7, 128), (8, 129), (9, 130), (10, 131)], 11, 48, [.int .u64 (0), .int .u64 (0), .int .u32 (0), .int .u8 (0), .int .u8 (0), .int .u8 (0), .int .u8 (0), .nilFunc, .pointer none, .int .i32 (0), .int .i32 (0)]⟩),
  (134, ⟨.other, 1, 8, [.pointer none]⟩)
]
def tbl (t : TypeId) : Option TyE := tblL.lookup t
theorem tb_1 : tbl 1 = some ⟨.other, 1, 8, [.nilFunc]⟩ := rfl
theorem tb_2 : tbl 2 = some ⟨.int .i64, 1, 8, [.int .i64 (0)]⟩ := rfl
theorem tb_3 : tbl 3 = some ⟨.int .i64, 1, 8, [.int .i64 (0)]⟩ := rfl
theorem tb_4 : tbl 4 = some ⟨.bool, 1, 1, [.bool false]⟩ := rfl
theorem tb_5 : tbl 5 = some ⟨.int .u8, 1, 1, [.int .u8 (0)]⟩ := rfl
theorem tb_6 : tbl 6 = some ⟨.int .u8, 1, 1, [.int .u8 (0)]⟩ := rfl
theorem tb_7 : tbl 7 = some ⟨.struct [(0, 2), (1, 3), (2, 4), (3, 6)], 4, 24, [.int .i64 (0), .int .i64 (0), .bool false, .int .u8 (0)]⟩ := rfl
theorem tb_8 : tbl 8 = some ⟨.struct [(0, 2), (1, 3), (2, 4), (3, 6)], 4, 24, [.int .i64 (0), .int .i64 (0), .bool false, .int .u8 (0)]⟩ := rfl
theorem tb_9 : tbl 9 = some ⟨.str, 1, 16, [.string ⟨#[]⟩]⟩ := rfl
theorem tb_10 : tbl 10 = some ⟨.str, 1, 16, [.string ⟨#[]⟩]⟩ := rfl
theorem tb_11 : tbl 11 = some ⟨.str, 1, 16, [.string ⟨#[]⟩]⟩ := rfl
theorem tb_12 : tbl 12 = some ⟨.int .u64, 1, 8, [.int .u64 (0)]⟩ := rfl
theorem tb_13 : tbl 13 = some ⟨.struct [(0, 9), (1, 12)], 2, 24, [.string ⟨#[]⟩, .int .u64 (0)]⟩ := rfl
theorem tb_14 : tbl 14 = some ⟨.struct [(0, 9), (1, 12)], 2, 24, [.string ⟨#[]⟩, .int .u64 (0)]⟩ := rfl
theorem tb_15 : tbl 15 = some ⟨.other, 1, 8, [.pointer none]⟩ := rfl
theorem tb_16 : tbl 16 = some ⟨.other, 1, 8, [.pointer none]⟩ := rfl
theorem tb_17 : tbl 17 = some ⟨.other, 1, 8, [.pointer none]⟩ := rfl
theorem tb_18 : tbl 18 = some ⟨.struct [(0, 17)], 1, 8, [.pointer none]⟩ := rfl
theorem tb_19 : tbl 19 = some ⟨.struct [(0, 17)], 1, 8, [.pointer none]⟩ := rfl
theorem tb_21 : tbl 21 = some ⟨.int .i32, 1, 4, [.int .i32 (0)]⟩ := rfl
theorem tb_22 : tbl 22 = some ⟨.slice 9, 1, 24, [.slice none 0 0]⟩ := rfl
theorem tb_23 : tbl 23 = some ⟨.slice 74, 1, 24, [.slice none 0 0]⟩ := rfl
theorem tb_24 : tbl 24 = some ⟨.struct [(0, 3), (1, 22), (2, 3), (3, 23)], 4, 64, [.int .i64 (0), .slice none 0 0, .int .i64 (0), .slice none 0 0]⟩ := rfl
theorem tb_25 : tbl 25 = some ⟨.struct [(0, 3), (1, 22), (2, 3), (3, 23)], 4, 64, [.int .i64 (0), .slice none 0 0, .int .i64 (0), .slice none 0 0]⟩ := rfl
theorem tb_26 : tbl 26 = some ⟨.struct [(0, 3), (1, 3), (2, 9)], 3, 32, [.int .i64 (0), .int .i64 (0), .string ⟨#[]⟩]⟩ := rfl
theorem tb_27 : tbl 27 = some ⟨.struct [(0, 3), (1, 3), (2, 9)], 3, 32, [.int .i64 (0), .int .i64 (0), .string ⟨#[]⟩]⟩ := rfl
theorem tb_28 : tbl 28 = some ⟨.other, 1, 8, [.nilFunc]⟩ := rfl
theorem tb_29 : tbl 29 = some ⟨.int .i64, 1, 8, [.int .i64 (0)]⟩ := rfl
theorem tb_30 : tbl 30 = some ⟨.other, 1, 8, [.nilFunc]⟩ := rfl
theorem tb_31 : tbl 31 = some ⟨.other, 1, 8, [.nilFunc]⟩ := rfl
theorem tb_33 : tbl 33 = some ⟨.other, 1, 8, [.nilFunc]⟩ := rfl
theorem tb_34 : tbl 34 = some ⟨.struct [(0, 25), (4, 29)], 5, 72, [.int .i64 (0), .slice none 0 0, .int .i64 (0), .slice none 0 0, .int .i64 (0)]⟩ := rfl
theorem tb_35 : tbl 35 = some ⟨.struct [(0, 25), (4, 29)], 5, 72, [.int .i64 (0), .slice none 0 0, .int .i64 (0), .slice none 0 0, .int .i64 (0)]⟩ := rfl
theorem tb_36 : tbl 36 = some ⟨.other, 1, 8, [.nilFunc]⟩ := rfl
theorem tb_38 : tbl 38 = some ⟨.other, 1, 8, [.nilFunc]⟩ := rfl
theorem tb_39 : tbl 39 = some ⟨.struct [(0, 25), (4, 22)], 5, 88, [.int .i64 (0), .slice none 0 0, .int .i64 (0), .slice none 0 0, .slice none 0 0]⟩ := rfl
theorem tb_40 : tbl 40 = some ⟨.struct [(0, 25), (4, 22)], 5, 88, [.int .i64 (0), .slice none 0 0, .int .i64 (0), .slice none 0 0, .slice none 0 0]⟩ := rfl
theorem tb_41 : tbl 41 = some ⟨.other, 1, 8, [.nilFunc]⟩ := rfl
theorem tb_42 : tbl 42 = some ⟨.other, 1, 8, [.nilFunc]⟩ := rfl
theorem tb_43 : tbl 43 = some ⟨.other, 1, 8, [.nilFunc]⟩ := rfl
theorem tb_44 : tbl 44 = some ⟨.other, 1, 8, [.nilFunc]⟩ := rfl
theorem tb_45 : tbl 45 = some ⟨.slice 27, 1, 24, [.slice none 0 0]⟩ := rfl
theorem tb_46 : tbl 46 = some ⟨.other, 1, 8, [.nilFunc]⟩ := rfl
theorem tb_47 : tbl 47 = some ⟨.other, 1, 8, [.nilFunc]⟩ := rfl
theorem tb_48 : tbl 48 = some ⟨.slice 55, 1, 24, [.slice none 0 0]⟩ := rfl
theorem tb_49 : tbl 49 = some ⟨.arr 2 22, 2, 48, [.slice none 0 0, .slice none 0 0]⟩ := rfl
theorem tb_50 : tbl 50 = some ⟨.other, 1, 8, [.nilFunc]⟩ := rfl
theorem tb_51 : tbl 51 = some ⟨.arr 2 25, 8, 128, [.int .i64 (0), .slice none 0 0, .int .i64 (0), .slice none 0 0, .int .i64 (0), .slice none 0 0, .int .i64 (0), .slice none 0 0]⟩ := rfl
theorem tb_52 : tbl 52 = some ⟨.arr 2 45, 2, 48, [.slice none 0 0, .slice none 0 0]⟩ := rfl
theorem tb_53 : tbl 53 = some ⟨.int .u16, 1, 2, [.int .u16 (0)]⟩ := rfl
theorem tb_54 : tbl 54 = some ⟨.struct [(0, 5), (1, 5), (2, 53)], 3, 4, [.int .u8 (0), .int .u8 (0), .int .u16 (0)]⟩ := rfl
theorem tb_55 : tbl 55 = some ⟨.struct [(0, 5), (1, 5), (2, 53)], 3, 4, [.int .u8 (0), .int .u8 (0), .int .u16 (0)]⟩ := rfl
theorem tb_56 : tbl 56 = some ⟨.other, 1, 8, [.nilFunc]⟩ := rfl
theorem tb_57 : tbl 57 = some ⟨.other, 1, 8, [.nilFunc]⟩ := rfl
theorem tb_58 : tbl 58 = some ⟨.slice 5, 1, 24, [.slice none 0 0]⟩ := rfl
theorem tb_60 : tbl 60 = some ⟨.other, 1, 8, [.nilFunc]⟩ := rfl
theorem tb_61 : tbl 61 = some ⟨.struct [(0, 58), (1, 29)], 2, 32, [.slice none 0 0, .int .i64 (0)]⟩ := rfl
theorem tb_62 : tbl 62 = some ⟨.struct [(0, 58), (1, 29)], 2, 32, [.slice none 0 0, .int .i64 (0)]⟩ := rfl
theorem tb_63 : tbl 63 = some ⟨.other, 1, 8, [.nilFunc]⟩ := rfl
theorem tb_64 : tbl 64 = some ⟨.other, 1, 8, [.nilFunc]⟩ := rfl
theorem tb_65 : tbl 65 = some ⟨.other, 1, 8, [.nilFunc]⟩ := rfl
theorem tb_66 : tbl 66 = some ⟨.other, 1, 8, [.nilFunc]⟩ := rfl
theorem tb_67 : tbl 67 = some ⟨.struct [(0, 25), (4, 25), (8, 22), (9, 22), (10, 22), (11, 22), (12, 45)], 13, 248, [.int .i64 (0), .slice none 0 0, .int .i64 (0), .slice none 0 0, .int .i64 (0), .slice none 0 0, .int .i64 (0), .slice none 0 0, .slice none 0 0, .slice none 0 0, .slice none 0 0, .slice none 0 0, .slice none 0 0]⟩ := rfl
theorem tb_68 : tbl 68 = some ⟨.struct [(0, 25), (4, 25), (8, 22), (9, 22), (10, 22), (11, 22), (12, 45)], 13, 248, [.int .i64 (0), .slice none 0 0, .int .i64 (0), .slice none 0 0, .int .i64 (0), .slice none 0 0, .int .i64 (0), .slice none 0 0, .slice none 0 0, .slice none 0 0, .slice none 0 0, .slice none 0 0, .slice none 0 0]⟩ := rfl
theorem tb_69 : tbl 69 = some ⟨.arr 2 68, 26, 496, [.int .i64 (0), .slice none 0 0, .int .i64 (0), .slice none 0 0, .int .i64 (0), .slice none 0 0, .int .i64 (0), .slice none 0 0, .slice none 0 0, .slice none 0 0, .slice none 0 0, .slice none 0 0, .slice none 0 0, .int .i64 (0), .slice none 0 0, .int .i64 (0), .slice none 0 0, .int .i64 (0), .slice none 0 0, .int .i64 (0), .slice none 0 0, .slice none 0 0, .slice none 0 0, .slice none 0 0, .slice none 0 0, .slice none 0 0]⟩ := rfl
theorem tb_71 : tbl 71 = some ⟨.other, 1, 8, [.nilFunc]⟩ := rfl
theorem tb_72 : tbl 72 = some ⟨.other, 1, 8, [.nilFunc]⟩ := rfl
theorem tb_73 : tbl 73 = some ⟨.struct [(0, 3), (1, 9)], 2, 24, [.int .i64 (0), .string ⟨#[]⟩]⟩ := rfl
theorem tb_74 : tbl 74 = some ⟨.struct [(0, 3), (1, 9)], 2, 24, [.int .i64 (0), .string ⟨#[]⟩]⟩ := rfl
theorem tb_75 : tbl 75 = some ⟨.other, 1, 8, [.nilFunc]⟩ := rfl
theorem tb_76 : tbl 76 = some ⟨.other, 1, 8, [.nilFunc]⟩ := rfl
theorem tb_77 : tbl 77 = some ⟨.other, 1, 8, [.nilFunc]⟩ := rfl
theorem tb_78 : tbl 78 = some ⟨.other, 1, 8, [.pointer none]⟩ := rfl
theorem tb_79 : tbl 79 = some ⟨.other, 1, 8, [.nilFunc]⟩ := rfl
theorem tb_80 : tbl 80 = some ⟨.other, 1, 8, [.nilFunc]⟩ := rfl
theorem tb_81 : tbl 81 = some ⟨.struct [(0, 79), (1, 80)], 2, 16, [.nilFunc, .nilFunc]⟩ := rfl
theorem tb_82 : tbl 82 = some ⟨.struct [(0, 79), (1, 80)], 2, 16, [.nilFunc, .nilFunc]⟩ := rfl
theorem tb_83 : tbl 83 = some ⟨.other, 1, 8, [.nilFunc]⟩ := rfl
theorem tb_84 : tbl 84 = some ⟨.slice 82, 1, 24, [.slice none 0 0]⟩ := rfl
theorem tb_85 : tbl 85 = some ⟨.other, 1, 8, [.nilFunc]⟩ := rfl
theorem tb_86 : tbl 86 = some ⟨.slice 3, 1, 24, [.slice none 0 0]⟩ := rfl
theorem tb_87 : tbl 87 = some ⟨.other, 1, 8, [.nilFunc]⟩ := rfl
theorem tb_88 : tbl 88 = some ⟨.other, 1, 8, [.nilFunc]⟩ := rfl
theorem tb_89 : tbl 89 = some ⟨.other, 1, 8, [.nilFunc]⟩ := rfl
theorem tb_90 : tbl 90 = some ⟨.other, 1, 8, [.nilFunc]⟩ := rfl
theorem tb_91 : tbl 91 = some ⟨.other, 1, 8, [.nilFunc]⟩ := rfl
theorem tb_92 : tbl 92 = some ⟨.other, 1, 8, [.pointer none]⟩ := rfl
theorem tb_93 : tbl 93 = some ⟨.other, 1, 8, [.pointer none]⟩ := rfl
theorem tb_94 : tbl 94 = some ⟨.other, 1, 8, [.nilFunc]⟩ := rfl
theorem tb_95 : tbl 95 = some ⟨.other, 1, 8, [.nilFunc]⟩ := rfl
theorem tb_96 : tbl 96 = some ⟨.other, 1, 8, [.nilFunc]⟩ := rfl
theorem tb_97 : tbl 97 = some ⟨.other, 1, 8, [.nilFunc]⟩ := rfl
theorem tb_98 : tbl 98 = some ⟨.other, 1, 8, [.nilFunc]⟩ := rfl
theorem tb_99 : tbl 99 = some ⟨.other, 1, 8, [.nilFunc]⟩ := rfl
theorem tb_100 : tbl 100 = some ⟨.other, 1, 8, [.nilFunc]⟩ := rfl
theorem tb_101 : tbl 101 = some ⟨.other, 1, 8, [.nilFunc]⟩ := rfl
theorem tb_102 : tbl 102 = some ⟨.slice 58, 1, 24, [.slice none 0 0]⟩ := rfl
theorem tb_103 : tbl 103 = some ⟨.other, 1, 8, [.nilFunc]⟩ := rfl
theorem tb_104 : tbl 104 = some ⟨.int .u64, 1, 8, [.int .u64 (0)]⟩ := rfl
theorem tb_105 : tbl 105 = some ⟨.int .u64, 1, 8, [.int .u64 (0)]⟩ := rfl
theorem tb_106 : tbl 106 = some ⟨.other, 1, 8, [.nilFunc]⟩ := rfl
theorem tb_107 : tbl 107 = some ⟨.other, 1, 8, [.nilFunc]⟩ := rfl
theorem tb_108 : tbl 108 = some ⟨.other, 1, 8, [.nilFunc]⟩ := rfl
theorem tb_111 : tbl 111 = some ⟨.other, 1, 8, [.nilFunc]⟩ := rfl
theorem tb_112 : tbl 112 = some ⟨.other, 1, 8, [.nilFunc]⟩ := rfl
theorem tb_114 : tbl 114 = some ⟨.other, 1, 8, [.nilFunc]⟩ := rfl
theorem tb_115 : tbl 115 = some ⟨.other, 1, 8, [.nilFunc]⟩ := rfl
theorem tb_116 : tbl 116 = some ⟨.other, 1, 8, [.nilFunc]⟩ := rfl
theorem tb_118 : tbl 118 = some ⟨.other, 1, 8, [.nilFunc]⟩ := rfl
theorem tb_119 : tbl 119 = some ⟨.struct [(0, 17), (1, 17), (2, 17), (3, 9)], 4, 40, [.pointer none, .pointer none, .pointer none, .string ⟨#[]⟩]⟩ := rfl
theorem tb_120 : tbl 120 = some ⟨.struct [(0, 17), (1, 17), (2, 17), (3, 9)], 4, 40, [.pointer none, .pointer none, .pointer none, .string ⟨#[]⟩]⟩ := rfl
theorem tb_121 : tbl 121 = some ⟨.arr 0 16, 0, 0, []⟩ := rfl
theorem tb_122 : tbl 122 = some ⟨.struct [(0, 121)], 0, 0, []⟩ := rfl
theorem tb_123 : tbl 123 = some ⟨.struct [(0, 121)], 0, 0, []⟩ := rfl
theorem tb_124 : tbl 124 = some ⟨.other, 1, 8, [.nilFunc]⟩ := rfl
theorem tb_125 : tbl 125 = some ⟨.int .u32, 1, 4, [.int .u32 (0)]⟩ := rfl
theorem tb_126 : tbl 126 = some ⟨.int .u8, 1, 1, [.int .u8 (0)]⟩ := rfl
theorem tb_127 : tbl 127 = some ⟨.int .u8, 1, 1, [.int .u8 (0)]⟩ := rfl
theorem tb_128 : tbl 128 = some ⟨.other, 1, 8, [.nilFunc]⟩ := rfl
theorem tb_129 : tbl 129 = some ⟨.other, 1, 8, [.pointer none]⟩ := rfl
theorem tb_130 : tbl 130 = some ⟨.int .i32, 1, 4, [.int .i32 (0)]⟩ := rfl
theorem tb_131 : tbl 131 = some ⟨.int .i32, 1, 4, [.int .i32 (0)]⟩ := rfl
theorem tb_132 : tbl 132 = some ⟨.struct [(0, 12), (1, 12), (2, 125), (3, 126), (4, 5), (5, 5), (6, 127), (7, 128), (8, 129), (9, 130), (10, 131)], 11, 48, [.int .u64 (0), .int .u64 (0), .int .u32 (0), .int .u8 (0), .int .u8 (0), .int .u8 (0), .int .u8 (0), .nilFunc, .pointer none, .int .i32 (0), .int .i32 (0)]⟩ := rfl
theorem tb_133 : tbl 133 = some ⟨.struct [(0, 12), (1, 12), (2, 125), (3, 126), (4, 5), (5, 5), (6, 127), (7, 128), (8, 129), (9, 130), (10, 131)], 11, 48, [.int .u64 (0), .int .u64 (0), .int .u32 (0), .int .u8 (0), .int .u8 (0), .int .u8 (0), .int .u8 (0), .nilFunc, .pointer none, .int .i32 (0), .int .i32 (0)]⟩ := rfl
theorem tb_134 : tbl 134 = some ⟨.other, 1, 8, [.pointer none]⟩ := rfl
def TOkL (P : Program) : List (Nat × TyE) → Prop
  | [] => True
  | (t, i) :: l => ((P.underlying t).map Ty.of = some i.ty ∧ (P.info? t).map (fun f => (f.size, f.bytes, f.zero.map fun v => (v.cells.toList, v.isAggV))) = some (i.size, i.bytes, some (i.zero, i.ty.agg)) ∧ i.zero.length = i.size ∧ i.zero.all Value.oneCell' = true) ∧ TOkL P l
theorem TOkL.get {P : Program} : ∀ {l : List (Nat × TyE)} {t : Nat} {i : TyE}, TOkL P l → l.lookup t = some i → (P.underlying t).map Ty.of = some i.ty ∧ (P.info? t).map (fun f => (f.size, f.bytes, f.zero.map fun v => (v.cells.toList, v.isAggV))) = some (i.size, i.bytes, some (i.zero, i.ty.agg)) ∧ i.zero.length = i.size ∧ i.zero.all Value.oneCell' = true
  | [], t, i, _, h => by simp at h
  | (s, j) :: l, t, i, h, hl => by
    by_cases hts : t = s
    · subst hts
      have : some j = some i := by rw [← hl]; exact lookup_cons_eq.symm
      injection this with this
      subst this
      exact h.1
    · exact TOkL.get h.2 (by rw [← hl]; exact (lookup_cons_ne hts).symm)
theorem tokL : TOkL Try.prog tblL := ⟨⟨by kernel_rfl, by kernel_rfl, by kernel_rfl, by kernel_rfl⟩, ⟨by kernel_rfl, by kernel_rfl, by kernel_rfl, by kernel_rfl⟩, ⟨by kernel_rfl, by kernel_rfl, by kernel_rfl, by kernel_rfl⟩, ⟨by kernel_rfl, by kernel_rfl, by kernel_rfl, by kernel_rfl⟩, ⟨by kernel_rfl, by kernel_rfl, by kernel_rfl, by kernel_rfl⟩, ⟨by kernel_rfl, by kernel_rfl, by kernel_rfl, by kernel_rfl⟩, ⟨by kernel_rfl, by kernel_rfl, by kernel_rfl, by kernel_rfl⟩, ⟨by kernel_rfl, by kernel_rfl, by kernel_rfl, by kernel_rfl⟩, ⟨by kernel_rfl, by kernel_rfl, by kernel_rfl, by kernel_rfl⟩, ⟨by kernel_rfl, by kernel_rfl, by kernel_rfl, by kernel_rfl⟩, ⟨by kernel_rfl, by kernel_rfl, by kernel_rfl, by kernel_rfl⟩, ⟨by kernel_rfl, by kernel_rfl, by kernel_rfl, by kernel_rfl⟩, ⟨by kernel_rfl, by kernel_rfl, by kernel_rfl, by kernel_rfl⟩, ⟨by kernel_rfl, by kernel_rfl, by kernel_rfl, by kernel_rfl⟩, ⟨by kernel_rfl, by kernel_rfl, by kernel_rfl, by kernel_rfl⟩, ⟨by kernel_rfl, by kernel_rfl, by kernel_rfl, by kernel_rfl⟩, ⟨by kernel_rfl, by kernel_rfl, by kernel_rfl, by kernel_rfl⟩, ⟨by kernel_rfl, by kernel_rfl, by kernel_rfl, by kernel_rfl⟩, ⟨by kernel_rfl, by kernel_rfl, by kernel_rfl, by kernel_rfl⟩, ⟨by kernel_rfl, by kernel_rfl, by kernel_rfl, by kernel_rfl⟩, ⟨by kernel_rfl, by kernel_rfl, by kernel_rfl, by kernel_rfl⟩, ⟨by kernel_rfl, by kernel_rfl, by kernel_rfl, by kernel_rfl⟩, ⟨by kernel_rfl, by kernel_rfl, by kernel_rfl, by kernel_rfl⟩, ⟨by kernel_rfl, by kernel_rfl, by kernel_rfl, by kernel_rfl⟩, ⟨by kernel_rfl, by kernel_rfl, by kernel_rfl, by kernel_rfl⟩, ⟨by kernel_rfl, by kernel_rfl, by kernel_rfl, by kernel_rfl⟩, ⟨by kernel_rfl, by kernel_rfl, by kernel_rfl, by kernel_rfl⟩, ⟨by kernel_rfl, by kernel_rfl, by kernel_rfl, by kernel_rfl⟩, ⟨by kernel_rfl, by kernel_rfl, by kernel_rfl, by kernel_rfl⟩, ⟨by kernel_rfl, by kernel_rfl, by kernel_rfl, by kernel_rfl⟩, ⟨by kernel_rfl, by kernel_rfl, by kernel_rfl, by kernel_rfl⟩, ⟨by kernel_rfl, by kernel_rfl, by kernel_rfl, by kernel_rfl⟩, ⟨by kernel_rfl, by kernel_rfl, by kernel_rfl, by kernel_rfl⟩, ⟨by kernel_rfl, by kernel_rfl, by kernel_rfl, by kernel_rfl⟩, ⟨by kernel_rfl, by kernel_rfl, by kernel_rfl, by kernel_rfl⟩, ⟨by kernel_rfl, by kernel_rfl, by kernel_rfl, by kernel_rfl⟩, ⟨by kernel_rfl, by kernel_rfl, by kernel_rfl, by kernel_rfl⟩, ⟨by kernel_rfl, by kernel_rfl, by kernel_rfl, by kernel_rfl⟩, ⟨by kernel_rfl, by kernel_rfl, by kernel_rfl, by kernel_rfl⟩, ⟨by kernel_rfl, by kernel_rfl, by kernel_rfl, by kernel_rfl⟩, ⟨by kernel_rfl, by kernel_rfl, by kernel_rfl, by kernel_rfl⟩, ⟨by kernel_rfl, by kernel_rfl, by kernel_rfl, by kernel_rfl⟩, ⟨by kernel_rfl, by kernel_rfl, by kernel_rfl, by kernel_rfl⟩, ⟨by kernel_rfl, by kernel_rfl, by kernel_rfl, by kernel_rfl⟩, ⟨by kernel_rfl, by kernel_rfl, by kernel_rfl, by kernel_rfl⟩, ⟨by kernel_rfl, by kernel_rfl, by kernel_rfl, by kernel_rfl⟩, ⟨by kernel_rfl, by kernel_rfl, by kernel_rfl, by kernel_rfl⟩, ⟨by kernel_rfl, by kernel_rfl, by kernel_rfl, by kernel_rfl⟩, ⟨by kernel_rfl, by kernel_rfl, by kernel_rfl, by kernel_rfl⟩, ⟨by kernel_rfl, by kernel_rfl, by kernel_rfl, by kernel_rfl⟩, ⟨by kernel_rfl, by kernel_rfl, by kernel_rfl, by kernel_rfl⟩, ⟨by kernel_rfl, by kernel_rfl, by kernel_rfl, by kernel_rfl⟩, ⟨by kernel_rfl, by kernel_rfl, by kernel_rfl, by kernel_rfl⟩, ⟨by kernel_rfl, by kernel_rfl, by kernel_rfl, by kernel_rfl⟩, ⟨by kernel_rfl, by kernel_rfl, by kernel_rfl, by kernel_rfl⟩, ⟨by kernel_rfl, by kernel_rfl, by kernel_rfl, by kernel_rfl⟩, ⟨by kernel_rfl, by kernel_rfl, by kernel_rfl, by kernel_rfl⟩, ⟨by kernel_rfl, by kernel_rfl, by kernel_rfl, by kernel_rfl⟩, ⟨by kernel_rfl, by kernel_rfl, by kernel_rfl, by kernel_rfl⟩, ⟨by kernel_rfl, by kernel_rfl, by kernel_rfl, by kernel_rfl⟩, ⟨by kernel_rfl, by kernel_rfl, by kernel_rfl, by kernel_rfl⟩, ⟨by kernel_rfl, by kernel_rfl, by kernel_rfl, by kernel_rfl⟩, ⟨by kernel_rfl, by kernel_rfl, by kernel_rfl, by kernel_rfl⟩, ⟨by kernel_rfl, by kernel_rfl, by kernel_rfl, by kernel_rfl⟩, ⟨by kernel_rfl, by kernel_rfl, by kernel_rfl, by kernel_rfl⟩, ⟨by kernel_rfl, by kernel_rfl, by kernel_rfl, by kernel_rfl⟩, ⟨by kernel_rfl, by kernel_rfl, by kernel_rfl, by kernel_rfl⟩, ⟨by kernel_rfl, by kernel_rfl, by kernel_rfl, by kernel_rfl⟩, ⟨by kernel_rfl, by kernel_rfl, by kernel_rfl, by kernel_rfl⟩, ⟨by kernel_rfl, by kernel_rfl, by kernel_rfl, by kernel_rfl⟩, ⟨by kernel_rfl, by kernel_rfl, by kernel_rfl, by kernel_rfl⟩, ⟨by kernel_rfl, by kernel_rfl, by kernel_rfl, by kernel_rfl⟩, ⟨by kernel_rfl, by kernel_rfl, by kernel_rfl, by kernel_rfl⟩, ⟨by kernel_rfl, by kernel_rfl, by kernel_rfl, by kernel_rfl⟩, ⟨by kernel_rfl, by kernel_rfl, by kernel_rfl, by kernel_rfl⟩, ⟨by kernel_rfl, by kernel_rfl, by kernel_rfl, by kernel_rfl⟩, ⟨by kernel_rfl, by kernel_rfl, by kernel_rfl, by kernel_rfl⟩, ⟨by kernel_rfl, by kernel_rfl, by kernel_rfl, by kernel_rfl⟩, ⟨by kernel_rfl, by kernel_rfl, by kernel_rfl, by kernel_rfl⟩, ⟨by kernel_rfl, by kernel_rfl, by kernel_rfl, by kernel_rfl⟩, ⟨by kernel_rfl, by kernel_rfl, by kernel_rfl, by kernel_rfl⟩, ⟨by kernel_rfl, by kernel_rfl, by kernel_rfl, by kernel_rfl⟩, ⟨by kernel_rfl, by kernel_rfl, by kernel_rfl, by kernel_rfl⟩, ⟨by kernel_rfl, by kernel_rfl, by kernel_rfl, by kernel_rfl⟩, ⟨by kernel_rfl, by kernel_rfl, by kernel_rfl, by kernel_rfl⟩, ⟨by kernel_rfl, by kernel_rfl, by kernel_rfl, by kernel_rfl⟩, ⟨by kernel_rfl, by kernel_rfl, by kernel_rfl, by kernel_rfl⟩, ⟨by kernel_rfl, by kernel_rfl, by kernel_rfl, by kernel_rfl⟩, ⟨by kernel_rfl, by kernel_rfl, by kernel_rfl, by kernel_rfl⟩, ⟨by kernel_rfl, by kernel_rfl, by kernel_rfl, by kernel_rfl⟩, ⟨by kernel_rfl, by kernel_rfl, by kernel_rfl, by kernel_rfl⟩, ⟨by kernel_rfl, by kernel_rfl, by kernel_rfl, by kernel_rfl⟩, ⟨by kernel_rfl, by kernel_rfl, by kernel_rfl, by kernel_rfl⟩, ⟨by kernel_rfl, by kernel_rfl, by kernel_rfl, by kernel_rfl⟩, ⟨by kernel_rfl, by kernel_rfl, by kernel_rfl, by kernel_rfl⟩, ⟨by kernel_rfl, by kernel_rfl, by kernel_rfl, by kernel_rfl⟩, ⟨by kernel_rfl, by kernel_rfl, by kernel_rfl, by kernel_rfl⟩, ⟨by kernel_rfl, by kernel_rfl, by kernel_rfl, by kernel_rfl⟩, ⟨by kernel_rfl, by kernel_rfl, by kernel_rfl, by kernel_rfl⟩, ⟨by kernel_rfl, by kernel_rfl, by kernel_rfl, by kernel_rfl⟩, ⟨by kernel_rfl, by kernel_rfl, by kernel_rfl, by kernel_rfl⟩, ⟨by kernel_rfl, by kernel_rfl, by kernel_rfl, by kernel_rfl⟩, ⟨by kernel_rfl, by kernel_rfl, by kernel_rfl, by kernel_rfl⟩, ⟨by kernel_rfl, by kernel_rfl, by kernel_rfl, by kernel_rfl⟩, ⟨by kernel_rfl, by kernel_rfl, by kernel_rfl, by kernel_rfl⟩, ⟨by kernel_rfl, by kernel_rfl, by kernel_rfl, by kernel_rfl⟩, ⟨by kernel_rfl, by kernel_rfl, by kernel_rfl, by kernel_rfl⟩, ⟨by kernel_rfl, by kernel_rfl, by kernel_rfl, by kernel_rfl⟩, ⟨by kernel_rfl, by kernel_rfl, by kernel_rfl, by kernel_rfl⟩, ⟨by kernel_rfl, by kernel_rfl, by kernel_rfl, by kernel_rfl⟩, ⟨by kernel_rfl, by kernel_rfl, by kernel_rfl, by kernel_rfl⟩, ⟨by kernel_rfl, by kernel_rfl, by kernel_rfl, by kernel_rfl⟩, ⟨by kernel_rfl, by kernel_rfl, by kernel_rfl, by kernel_rfl⟩, ⟨by kernel_rfl, by kernel_rfl, by kernel_rfl, by kernel_rfl⟩, ⟨by kernel_rfl, by kernel_rfl, by kernel_rfl, by kernel_rfl⟩, ⟨by kernel_rfl, by kernel_rfl, by kernel_rfl, by kernel_rfl⟩, ⟨by kernel_rfl, by kernel_rfl, by kernel_rfl, by kernel_rfl⟩, ⟨by kernel_rfl, by kernel_rfl, by kernel_rfl, by kernel_rfl⟩, ⟨by kernel_rfl, by kernel_rfl, by kernel_rfl, by kernel_rfl⟩, ⟨by kernel_rfl, by kernel_rfl, by kernel_rfl, by kernel_rfl⟩, ⟨by kernel_rfl, by kernel_rfl, by kernel_rfl, by kernel_rfl⟩, ⟨by kernel_rfl, by kernel_rfl, by kernel_rfl, by kernel_rfl⟩, ⟨by kernel_rfl, by kernel_rfl, by kernel_rfl, by kernel_rfl⟩, ⟨by kernel_rfl, by kernel_rfl, by kernel_rfl, by kernel_rfl⟩, ⟨by kernel_rfl, by kernel_rfl, by kernel_rfl, by kernel_rfl⟩, trivial⟩
theorem tok : TOk Try.prog tbl := fun _ _ h => tokL.get h
end Go.Proofs.Ytakbadleipbngaa
