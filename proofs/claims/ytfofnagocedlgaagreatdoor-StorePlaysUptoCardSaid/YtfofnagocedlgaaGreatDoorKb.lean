/- The texts Cx Sl Rl Op, laid together. -/
import Derived.Test.YtfofnagocedlgaaGreatDoorChecked
import Derived.Laws.AppendOwn
import Derived.Laws.CopyRow
import Derived.Laws.MakeOwn
import Derived.Laws.BytesString
import Derived.Laws.Slices
import Derived.Below
import Derived.Laws.Small
import Derived.IntWalk
import Derived.Test.YtfofnagocedlgaaGreatDoorKa
section
/-
  THE PROGRAM AS THE FIRST LAYER SEES IT: how its types are seen; which functions may be entered. Printed by shx.py.
-/
namespace Go.Proofs.YtfofnagocedlgaaGreatDoor
open Go Sh
noncomputable abbrev P : Program := Tryz.prog
def tbl : List (TypeId × RK) := [(2, (.one (.int .i64))), (3, (.one (.int .i64))), (4, (.one .bool)), (5, (.one (.int .u8))), (6, (.one (.int .u8))), (9, (.one .str)), (10, (.one .str)), (11, (.one .str)), (12, (.one (.int .u64))), (21, (.one (.int .i32))), (22, (.one (.int .u64))), (32, (.one (.int .u16))), (35, (.one (.int .i64))), (36, (.tup [.raw, (.int .i64)])), (43, (.tup [.raw, .bool])), (51, (.tup [.raw, (.int .i64)])), (62, (.tup [.raw, .bool])), (66, (.tup [.raw, (.int .i64)])), (75, (.tup [(.int .i64), .bool])), (87, (.tup [.raw, (.int .i64)])), (127, (.tup [(.int .i64), .raw])), (131, (.tup [.raw, .bool])), (145, (.one (.int .u64))), (150, (.tup [.raw, .bool])), (155, (.one (.int .i64))), (156, (.tup [(.int .i64), (.int .i64)])), (162, (.one (.int .u32))), (165, (.tup [(.int .i32), (.int .i64)])), (168, (.one (.int .u64))), (176, (.tup [(.int .i64), (.int .i64)])), (190, (.one (.int .u8))), (191, (.one (.int .u8))), (193, (.one (.int .i32))), (194, (.one (.int .i32)))]
def cll : List FuncId := [3, 4, 5, 6, 7, 8, 9, 10, 11, 12, 13, 14, 15, 16, 17, 18, 19, 20, 21, 22, 23, 24, 25, 26, 27, 28, 29, 30, 31, 32, 33, 34, 35, 36, 37, 38, 39, 40, 41, 42, 43, 44, 45, 46, 47, 48, 49, 50, 51, 52, 53, 54, 55, 56, 57, 58, 59, 60, 61, 62, 63, 64, 65, 66, 67, 68, 69, 70, 71, 72, 73, 74, 75, 76, 77, 78, 79, 80, 81, 82, 83, 84, 85, 86, 87, 88, 89, 90, 91, 93, 94, 95, 96, 97, 98, 99, 100, 101, 102, 105, 106, 107, 108, 109, 110, 111, 112, 113, 114, 115, 116, 117, 118, 119, 120, 121, 122, 123, 124, 125, 126, 127, 128, 129, 130, 131, 132, 133, 134, 135, 136, 137, 138, 139, 140, 142, 165]
noncomputable def cx : Cx := ⟨P, tbl, cll⟩
def tab : List (Nat × TI) := [(0, ⟨1, 0, .other⟩), (1, ⟨1, 8, .other⟩), (2, ⟨1, 8, .int .i64⟩), (3, ⟨1, 8, .int .i64⟩), (4, ⟨1, 1, .bool⟩), (5, ⟨1, 1, .int .u8⟩), (6, ⟨1, 1, .int .u8⟩), (7, ⟨4, 24, .struct [(0, 2), (1, 3), (2, 4), (3, 6)]⟩), (8, ⟨4, 24, .struct [(0, 2), (1, 3), (2, 4), (3, 6)]⟩), (9, ⟨1, 16, .str⟩), (10, ⟨1, 16, .str⟩), (11, ⟨1, 16, .str⟩), (12, ⟨1, 8, .int .u64⟩), (13, ⟨2, 24, .struct [(0, 9), (1, 12)]⟩), (14, ⟨2, 24, .struct [(0, 9), (1, 12)]⟩), (15, ⟨1, 8, .ptr 186⟩), (16, ⟨1, 8, .ptr 189⟩), (17, ⟨1, 8, .ptr 196⟩), (18, ⟨1, 8, .struct [(0, 17)]⟩), (19, ⟨1, 8, .struct [(0, 17)]⟩), (20, ⟨1, 16, .other⟩), (21, ⟨1, 4, .int .i32⟩), (22, ⟨1, 8, .int .u64⟩), (23, ⟨1, 24, .sl 55⟩), (24, ⟨1, 24, .sl 5⟩), (25, ⟨5, 80, .struct [(0, 3), (1, 9), (2, 3), (3, 23), (4, 24)]⟩), (26, ⟨5, 80, .struct [(0, 3), (1, 9), (2, 3), (3, 23), (4, 24)]⟩), (27, ⟨9, 136, .struct [(0, 9), (1, 22), (2, 22), (3, 23), (4, 26)]⟩), (28, ⟨9, 136, .struct [(0, 9), (1, 22), (2, 22), (3, 23), (4, 26)]⟩), (29, ⟨1, 8, .other⟩), (30, ⟨1, 8, .other⟩), (31, ⟨1, 8, .other⟩), (32, ⟨1, 2, .int .u16⟩), (33, ⟨1, 24, .sl 40⟩), (34, ⟨1, 8, .ptr 72⟩), (35, ⟨1, 8, .int .i64⟩), (36, ⟨1, 0, .other⟩), (37, ⟨1, 8, .other⟩), (38, ⟨1, 24, .sl 28⟩), (39, ⟨12, 184, .struct [(0, 3), (1, 28), (10, 9), (11, 23)]⟩), (40, ⟨12, 184, .struct [(0, 3), (1, 28), (10, 9), (11, 23)]⟩), (41, ⟨1, 8, .other⟩), (42, ⟨1, 8, .other⟩), (43, ⟨1, 0, .other⟩), (44, ⟨1, 8, .other⟩), (45, ⟨1, 8, .other⟩), (46, ⟨1, 8, .other⟩), (47, ⟨1, 8, .other⟩), (48, ⟨1, 8, .other⟩), (49, ⟨1, 8, .other⟩), (50, ⟨1, 8, .ptr 91⟩), (51, ⟨1, 0, .other⟩), (52, ⟨1, 8, .other⟩), (53, ⟨1, 8, .other⟩), (54, ⟨2, 32, .struct [(0, 9), (1, 9)]⟩), (55, ⟨2, 32, .struct [(0, 9), (1, 9)]⟩), (56, ⟨1, 8, .other⟩), (57, ⟨1, 8, .other⟩), (58, ⟨1, 8, .other⟩), (59, ⟨1, 8, .other⟩), (60, ⟨1, 24, .sl 23⟩), (61, ⟨1, 24, .sl 9⟩), (62, ⟨1, 0, .other⟩), (63, ⟨1, 8, .other⟩), (64, ⟨1, 8, .other⟩), (65, ⟨1, 8, .ptr 107⟩), (66, ⟨1, 0, .other⟩), (67, ⟨1, 8, .other⟩), (68, ⟨10, 144, .struct [(0, 28), (9, 4)]⟩), (69, ⟨10, 144, .struct [(0, 28), (9, 4)]⟩), (70, ⟨640, 9216, .arr 64 69⟩), (71, ⟨644, 9248, .struct [(0, 70), (640, 65), (641, 3), (642, 3), (643, 3)]⟩), (72, ⟨644, 9248, .struct [(0, 70), (640, 65), (641, 3), (642, 3), (643, 3)]⟩), (73, ⟨1, 8, .other⟩), (74, ⟨1, 8, .other⟩), (75, ⟨1, 0, .other⟩), (76, ⟨1, 8, .other⟩), (77, ⟨1, 8, .other⟩), (78, ⟨1, 8, .other⟩), (79, ⟨1, 24, .sl 69⟩), (80, ⟨1, 8, .other⟩), (81, ⟨1, 8, .other⟩), (82, ⟨1, 8, .other⟩), (83, ⟨1, 8, .other⟩), (84, ⟨1, 8, .other⟩), (85, ⟨1, 8, .other⟩), (86, ⟨1, 8, .ptr 117⟩), (87, ⟨1, 0, .other⟩), (88, ⟨1, 8, .other⟩), (89, ⟨1, 24, .sl 94⟩), (90, ⟨4, 48, .struct [(0, 89), (1, 86), (2, 3), (3, 3)]⟩), (91, ⟨4, 48, .struct [(0, 89), (1, 86), (2, 3), (3, 3)]⟩), (92, ⟨1, 8, .other⟩), (93, ⟨10, 144, .struct [(0, 3), (1, 28)]⟩), (94, ⟨10, 144, .struct [(0, 3), (1, 28)]⟩), (95, ⟨1, 8, .other⟩), (96, ⟨1, 8, .other⟩), (97, ⟨1, 8, .other⟩), (98, ⟨1, 8, .mp 9 3⟩), (99, ⟨1, 8, .other⟩), (100, ⟨1, 8, .other⟩), (101, ⟨1, 8, .other⟩), (102, ⟨1, 8, .other⟩), (103, ⟨1, 8, .other⟩), (104, ⟨1, 8, .mp 3 114⟩), (105, ⟨1, 8, .flt .f64⟩), (106, ⟨3, 24, .struct [(0, 104), (1, 105), (2, 3)]⟩), (107, ⟨3, 24, .struct [(0, 104), (1, 105), (2, 3)]⟩), (108, ⟨1, 24, .sl 3⟩), (109, ⟨1, 8, .other⟩), (110, ⟨1, 24, .sl 108⟩), (111, ⟨1, 8, .other⟩), (112, ⟨1, 8, .other⟩), (113, ⟨1, 8, .other⟩), (114, ⟨1, 16, .cpl .f64⟩), (115, ⟨1, 8, .other⟩), (116, ⟨3, 56, .struct [(0, 108), (1, 108), (2, 3)]⟩), (117, ⟨3, 56, .struct [(0, 108), (1, 108), (2, 3)]⟩), (118, ⟨1, 8, .other⟩), (119, ⟨1, 8, .other⟩), (120, ⟨1, 8, .other⟩), (121, ⟨1, 8, .other⟩), (122, ⟨1, 8, .ptr 124⟩), (123, ⟨2, 32, .struct [(0, 122), (1, 24)]⟩), (124, ⟨2, 32, .struct [(0, 122), (1, 24)]⟩), (125, ⟨1, 16, .other⟩), (126, ⟨1, 16, .other⟩), (127, ⟨1, 0, .other⟩), (128, ⟨1, 8, .other⟩), (129, ⟨1, 8, .other⟩), (130, ⟨1, 8, .other⟩), (131, ⟨1, 0, .other⟩), (132, ⟨1, 8, .other⟩), (133, ⟨1, 8, .other⟩), (134, ⟨1, 8, .ptr 5⟩), (135, ⟨1, 8, .other⟩), (136, ⟨1, 8, .other⟩), (137, ⟨1, 8, .other⟩), (138, ⟨1, 8, .other⟩), (139, ⟨1, 8, .other⟩), (140, ⟨1, 8, .other⟩), (141, ⟨1, 8, .other⟩), (142, ⟨1, 8, .other⟩), (143, ⟨1, 8, .other⟩), (144, ⟨1, 8, .other⟩), (145, ⟨1, 8, .int .u64⟩), (146, ⟨1, 8, .other⟩), (147, ⟨1, 8, .other⟩), (148, ⟨256, 256, .arr 256 4⟩), (149, ⟨256, 256, .arr 256 4⟩), (150, ⟨1, 0, .other⟩), (151, ⟨1, 8, .other⟩), (152, ⟨1, 8, .other⟩), (153, ⟨1, 8, .ptr 149⟩), (154, ⟨1, 8, .other⟩), (155, ⟨1, 8, .int .i64⟩), (156, ⟨1, 0, .other⟩), (157, ⟨1, 8, .other⟩), (158, ⟨1, 8, .other⟩), (159, ⟨1, 8, .other⟩), (160, ⟨1, 8, .other⟩), (161, ⟨1, 8, .other⟩), (162, ⟨1, 4, .int .u32⟩), (163, ⟨1, 8, .other⟩), (164, ⟨1, 8, .other⟩), (165, ⟨1, 0, .other⟩), (166, ⟨1, 8, .other⟩), (167, ⟨1, 8, .other⟩), (168, ⟨1, 8, .int .u64⟩), (169, ⟨1, 8, .other⟩), (170, ⟨1, 8, .other⟩), (171, ⟨1, 8, .other⟩), (172, ⟨1, 8, .ptr 3⟩), (173, ⟨1, 8, .other⟩), (174, ⟨1, 8, .other⟩), (175, ⟨1, 8, .ptr 168⟩), (176, ⟨1, 0, .other⟩), (177, ⟨1, 8, .other⟩), (178, ⟨256, 256, .arr 256 5⟩), (179, ⟨2, 2, .struct [(0, 5), (1, 5)]⟩), (180, ⟨2, 2, .struct [(0, 5), (1, 5)]⟩), (181, ⟨32, 32, .arr 16 180⟩), (182, ⟨1, 8, .other⟩), (183, ⟨1, 8, .other⟩), (184, ⟨1, 8, .other⟩), (185, ⟨4, 40, .struct [(0, 17), (1, 17), (2, 17), (3, 9)]⟩), (186, ⟨4, 40, .struct [(0, 17), (1, 17), (2, 17), (3, 9)]⟩), (187, ⟨0, 0, .arr 0 16⟩), (188, ⟨0, 0, .struct [(0, 187)]⟩), (189, ⟨0, 0, .struct [(0, 187)]⟩), (190, ⟨1, 1, .int .u8⟩), (191, ⟨1, 1, .int .u8⟩), (192, ⟨1, 8, .other⟩), (193, ⟨1, 4, .int .i32⟩), (194, ⟨1, 4, .int .i32⟩), (195, ⟨11, 48, .struct [(0, 12), (1, 12), (2, 162), (3, 190), (4, 5), (5, 5), (6, 191), (7, 192), (8, 134), (9, 193), (10, 194)]⟩), (196, ⟨11, 48, .struct [(0, 12), (1, 12), (2, 162), (3, 190), (4, 5), (5, 5), (6, 191), (7, 192), (8, 134), (9, 193), (10, 194)]⟩)]
theorem tab_ok : tab.map (fun p => tiOf P p.1) = tab.map (fun p => some p.2) := by kernel_rfl
def ztab : List (Nat × List Value) := [(1, [.nilFunc]), (2, [.int .i64 0]), (3, [.int .i64 0]), (4, [.bool false]), (5, [.int .u8 0]), (6, [.int .u8 0]), (7, [.int .i64 0, .int .i64 0, .bool false, .int .u8 0]), (8, [.int .i64 0, .int .i64 0, .bool false, .int .u8 0]), (9, [.string ⟨#[]⟩]), (10, [.string ⟨#[]⟩]), (11, [.string ⟨#[]⟩]), (12, [.int .u64 0]), (13, [.string ⟨#[]⟩, .int .u64 0]), (14, [.string ⟨#[]⟩, .int .u64 0]), (15, [.pointer none]), (16, [.pointer none]), (17, [.pointer none]), (18, [.pointer none]), (19, [.pointer none]), (20, [.nilIface]), (21, [.int .i32 0]), (22, [.int .u64 0]), (23, [.slice none 0 0]), (24, [.slice none 0 0]), (25, [.int .i64 0, .string ⟨#[]⟩, .int .i64 0, .slice none 0 0, .slice none 0 0]), (26, [.int .i64 0, .string ⟨#[]⟩, .int .i64 0, .slice none 0 0, .slice none 0 0]), (27, [.string ⟨#[]⟩, .int .u64 0, .int .u64 0, .slice none 0 0, .int .i64 0, .string ⟨#[]⟩, .int .i64 0, .slice none 0 0, .slice none 0 0]), (28, [.string ⟨#[]⟩, .int .u64 0, .int .u64 0, .slice none 0 0, .int .i64 0, .string ⟨#[]⟩, .int .i64 0, .slice none 0 0, .slice none 0 0]), (29, [.nilFunc]), (30, [.nilFunc]), (31, [.nilFunc]), (32, [.int .u16 0]), (33, [.slice none 0 0]), (34, [.pointer none]), (35, [.int .i64 0]), (37, [.nilFunc]), (38, [.slice none 0 0]), (39, [.int .i64 0, .string ⟨#[]⟩, .int .u64 0, .int .u64 0, .slice none 0 0, .int .i64 0, .string ⟨#[]⟩, .int .i64 0, .slice none 0 0, .slice none 0 0, .string ⟨#[]⟩, .slice none 0 0]), (40, [.int .i64 0, .string ⟨#[]⟩, .int .u64 0, .int .u64 0, .slice none 0 0, .int .i64 0, .string ⟨#[]⟩, .int .i64 0, .slice none 0 0, .slice none 0 0, .string ⟨#[]⟩, .slice none 0 0]), (41, [.nilFunc]), (42, [.nilFunc]), (44, [.nilFunc]), (45, [.nilFunc]), (46, [.nilFunc]), (47, [.nilFunc]), (48, [.nilFunc]), (49, [.nilFunc]), (50, [.pointer none]), (52, [.nilFunc]), (53, [.nilFunc]), (54, [.string ⟨#[]⟩, .string ⟨#[]⟩]), (55, [.string ⟨#[]⟩, .string ⟨#[]⟩]), (56, [.nilFunc]), (57, [.nilFunc]), (58, [.nilFunc]), (59, [.nilFunc]), (60, [.slice none 0 0]), (61, [.slice none 0 0]), (63, [.nilFunc]), (64, [.nilFunc]), (65, [.pointer none]), (67, [.nilFunc]), (68, [.string ⟨#[]⟩, .int .u64 0, .int .u64 0, .slice none 0 0, .int .i64 0, .string ⟨#[]⟩, .int .i64 0, .slice none 0 0, .slice none 0 0, .bool false]), (69, [.string ⟨#[]⟩, .int .u64 0, .int .u64 0, .slice none 0 0, .int .i64 0, .string ⟨#[]⟩, .int .i64 0, .slice none 0 0, .slice none 0 0, .bool false]), (70, (List.replicate 64 [.string ⟨#[]⟩, .int .u64 0, .int .u64 0, .slice none 0 0, .int .i64 0, .string ⟨#[]⟩, .int .i64 0, .slice none 0 0, .slice none 0 0, .bool false]).flatten), (71, (List.replicate 64 [.string ⟨#[]⟩, .int .u64 0, .int .u64 0, .slice none 0 0, .int .i64 0, .string ⟨#[]⟩, .int .i64 0, .slice none 0 0, .slice none 0 0, .bool false]).flatten ++ [.pointer none, .int .i64 0, .int .i64 0, .int .i64 0]), (72, (List.replicate 64 [.string ⟨#[]⟩, .int .u64 0, .int .u64 0, .slice none 0 0, .int .i64 0, .string ⟨#[]⟩, .int .i64 0, .slice none 0 0, .slice none 0 0, .bool false]).flatten ++ [.pointer none, .int .i64 0, .int .i64 0, .int .i64 0]), (73, [.nilFunc]), (74, [.nilFunc]), (76, [.nilFunc]), (77, [.nilFunc]), (78, [.nilFunc]), (79, [.slice none 0 0]), (80, [.nilFunc]), (81, [.nilFunc]), (82, [.nilFunc]), (83, [.nilFunc]), (84, [.nilFunc]), (85, [.nilFunc]), (86, [.pointer none]), (88, [.nilFunc]), (89, [.slice none 0 0]), (90, [.slice none 0 0, .pointer none, .int .i64 0, .int .i64 0]), (91, [.slice none 0 0, .pointer none, .int .i64 0, .int .i64 0]), (92, [.nilFunc]), (93, [.int .i64 0, .string ⟨#[]⟩, .int .u64 0, .int .u64 0, .slice none 0 0, .int .i64 0, .string ⟨#[]⟩, .int .i64 0, .slice none 0 0, .slice none 0 0]), (94, [.int .i64 0, .string ⟨#[]⟩, .int .u64 0, .int .u64 0, .slice none 0 0, .int .i64 0, .string ⟨#[]⟩, .int .i64 0, .slice none 0 0, .slice none 0 0]), (95, [.nilFunc]), (96, [.nilFunc]), (97, [.nilFunc]), (98, [.map none]), (99, [.nilFunc]), (100, [.nilFunc]), (101, [.nilFunc]), (102, [.nilFunc]), (103, [.nilFunc]), (104, [.map none]), (105, [.float .f64 0]), (106, [.map none, .float .f64 0, .int .i64 0]), (107, [.map none, .float .f64 0, .int .i64 0]), (108, [.slice none 0 0]), (109, [.nilFunc]), (110, [.slice none 0 0]), (111, [.nilFunc]), (112, [.nilFunc]), (113, [.nilFunc]), (114, [.complex .f64 0 0]), (115, [.nilFunc]), (116, [.slice none 0 0, .slice none 0 0, .int .i64 0]), (117, [.slice none 0 0, .slice none 0 0, .int .i64 0]), (118, [.nilFunc]), (119, [.nilFunc]), (120, [.nilFunc]), (121, [.nilFunc]), (122, [.pointer none]), (123, [.pointer none, .slice none 0 0]), (124, [.pointer none, .slice none 0 0]), (125, [.nilIface]), (126, [.nilIface]), (128, [.nilFunc]), (129, [.nilFunc]), (130, [.nilFunc]), (132, [.nilFunc]), (133, [.nilFunc]), (134, [.pointer none]), (135, [.nilFunc]), (136, [.nilFunc]), (137, [.nilFunc]), (138, [.nilFunc]), (139, [.nilFunc]), (140, [.pointer none]), (141, [.nilFunc]), (142, [.nilFunc]), (143, [.nilFunc]), (144, [.nilFunc]), (145, [.int .u64 0]), (146, [.nilFunc]), (147, [.nilFunc]), (148, List.replicate 256 (.bool false)), (149, List.replicate 256 (.bool false)), (151, [.nilFunc]), (152, [.nilFunc]), (153, [.pointer none]), (154, [.nilFunc]), (155, [.int .i64 0]), (157, [.nilFunc]), (158, [.nilFunc]), (159, [.nilFunc]), (160, [.nilFunc]), (161, [.nilFunc]), (162, [.int .u32 0]), (163, [.nilFunc]), (164, [.nilFunc]), (166, [.nilFunc]), (167, [.nilFunc]), (168, [.int .u64 0]), (169, [.nilFunc]), (170, [.nilFunc]), (171, [.nilFunc]), (172, [.pointer none]), (173, [.nilFunc]), (174, [.nilFunc]), (175, [.pointer none]), (177, [.nilFunc]), (178, List.replicate 256 (.int .u8 0)), (179, [.int .u8 0, .int .u8 0]), (180, [.int .u8 0, .int .u8 0]), (181, [.int .u8 0, .int .u8 0, .int .u8 0, .int .u8 0, .int .u8 0, .int .u8 0, .int .u8 0, .int .u8 0, .int .u8 0, .int .u8 0, .int .u8 0, .int .u8 0, .int .u8 0, .int .u8 0, .int .u8 0, .int .u8 0, .int .u8 0, .int .u8 0, .int .u8 0, .int .u8 0, .int .u8 0, .int .u8 0, .int .u8 0, .int .u8 0, .int .u8 0, .int .u8 0, .int .u8 0, .int .u8 0, .int .u8 0, .int .u8 0, .int .u8 0, .int .u8 0]), (182, [.nilFunc]), (183, [.nilFunc]), (184, [.nilFunc]), (185, [.pointer none, .pointer none, .pointer none, .string ⟨#[]⟩]), (186, [.pointer none, .pointer none, .pointer none, .string ⟨#[]⟩]), (187, []), (188, []), (189, []), (190, [.int .u8 0]), (191, [.int .u8 0]), (192, [.nilFunc]), (193, [.int .i32 0]), (194, [.int .i32 0]), (195, [.int .u64 0, .int .u64 0, .int .u32 0, .int .u8 0, .int .u8 0, .int .u8 0, .int .u8 0, .nilFunc, .pointer none, .int .i32 0, .int .i32 0]), (196, [.int .u64 0, .int .u64 0, .int .u32 0, .int .u8 0, .int .u8 0, .int .u8 0, .int .u8 0, .nilFunc, .pointer none, .int .i32 0, .int .i32 0])]
theorem ztab_ok : ztab.map (fun p => zeroOf P p.1) = ztab.map (fun p => some p.2) := by kernel_rfl
def ti : Nat → Option TI := lookTI tab
def zro : Nat → Option (List Value) := lookTI ztab
theorem cx_ok : cx.Ok := ⟨callables P cll (by kernel_rfl), by kernel_rfl⟩
abbrev law21_StoreSays (a0 : Value) (a1 : Value) (K : Bool → WP) : WP := FnK P (.one .bool) 3 #[a0, a1] K
abbrev law21_StoreTells (a0 : Int) (a1 : Int) (a2 : Value) (K : Bool → WP) : WP := FnK P (.one .bool) 4 #[(.int .u16 a0), (.int .u8 a1), a2] K
abbrev law21_StoreLimits (a0 : Int) (a1 : Int) (a2 : Value) (K : Bool → WP) : WP := FnK P (.one .bool) 5 #[(.int .u16 a0), (.int .u8 a1), a2] K
abbrev law21_StorePlays (a0 : Int) (a1 : Int) (a2 : Value) (K : Bool → WP) : WP := FnK P (.one .bool) 6 #[(.int .i64 a0), (.int .i64 a1), a2] K
abbrev law21_StoreKnown (K : Bool → WP) : WP := FnK P (.one .bool) 7 #[] K
abbrev law21_awake (K : Bool → WP) : WP := FnK P (.one .bool) 8 #[] K
abbrev store_Size (a0 : Value) (K : Int → WP) : WP := FnK P (.one (.int .i64)) 9 #[a0] K
abbrev ref21_Size (a0 : Value) (K : Int → WP) : WP := FnK P (.one (.int .i64)) 10 #[a0] K
abbrev store_For (a0 : Value) (a1 : Value) (K : Bool → WP) : WP := FnK P (.one .bool) 11 #[a0, a1] K
abbrev ref21_For (a0 : Value) (a1 : Value) (K : Bool → WP) : WP := FnK P (.one .bool) 12 #[a0, a1] K
abbrev store_New (a0 : Int) (a1 : Int) (K : Value → Int → WP) : WP := FnK P (.tup [.raw, (.int .i64)]) 13 #[(.int .i64 a0), (.int .i64 a1)] K
abbrev ref16_Same (a0 : Value) (a1 : Value) (K : Bool → WP) : WP := FnK P (.one .bool) 14 #[a0, a1] K
abbrev store_Store_Put (a0 : Value) (a1 : Value) (K : Int → WP) : WP := FnK P (.one (.int .i64)) 15 #[a0, a1] K
abbrev store_Store_Look (a0 : Value) (a1 : ByteArray) (a2 : Value) (K : Value → Bool → WP) : WP := FnK P (.tup [.raw, .bool]) 16 #[a0, (.string a1), a2] K
abbrev store_Store_Get (a0 : Value) (a1 : ByteArray) (a2 : Value) (K : Value → Bool → WP) : WP := FnK P (.tup [.raw, .bool]) 17 #[a0, (.string a1), a2] K
abbrev ref21_Same (a0 : Value) (a1 : Value) (K : Bool → WP) : WP := FnK P (.one .bool) 18 #[a0, a1] K
abbrev store_Store_Drop (a0 : Value) (a1 : ByteArray) (K : Int → WP) : WP := FnK P (.one (.int .i64)) 19 #[a0, (.string a1)] K
abbrev store_Store_Entries (a0 : Value) (K : Value → WP) : WP := FnK P (.one .raw) 20 #[a0] K
abbrev store_Store_Used (a0 : Value) (K : Int → WP) : WP := FnK P (.one (.int .i64)) 21 #[a0] K
abbrev ref21_New (a0 : Int) (a1 : Int) (K : Value → Int → WP) : WP := FnK P (.tup [.raw, (.int .i64)]) 22 #[(.int .i64 a0), (.int .i64 a1)] K
abbrev ref21_Own (a0 : Value) (K : Value → WP) : WP := FnK P (.one .raw) 23 #[a0] K
abbrev ref21_Store_Put (a0 : Value) (a1 : Value) (K : Int → WP) : WP := FnK P (.one (.int .i64)) 24 #[a0, a1] K
abbrev ref21_Store_Get (a0 : Value) (a1 : ByteArray) (a2 : Value) (K : Value → Bool → WP) : WP := FnK P (.tup [.raw, .bool]) 25 #[a0, (.string a1), a2] K
abbrev ref21_Store_Look (a0 : Value) (a1 : ByteArray) (a2 : Value) (K : Value → Bool → WP) : WP := FnK P (.tup [.raw, .bool]) 26 #[a0, (.string a1), a2] K
abbrev ref21_Store_Drop (a0 : Value) (a1 : ByteArray) (K : Int → WP) : WP := FnK P (.one (.int .i64)) 27 #[a0, (.string a1)] K
abbrev store_Store_Copy (a0 : Value) (K : Value → WP) : WP := FnK P (.one .raw) 28 #[a0] K
abbrev law21_E (a0 : ByteArray) (a1 : Int) (K : Value → WP) : WP := FnK P (.one .raw) 29 #[(.string a0), (.int .i64 a1)] K
abbrev law21_same (a0 : Value) (a1 : Value) (K : Bool → WP) : WP := FnK P (.one .bool) 30 #[a0, a1] K
abbrev vary_Names (a0 : Value) (K : Value → Bool → WP) : WP := FnK P (.tup [.raw, .bool]) 31 #[a0] K
abbrev vary_Same (a0 : Value) (a1 : Value) (K : Bool → WP) : WP := FnK P (.one .bool) 32 #[a0, a1] K
abbrev vary_Select (a0 : Value) (a1 : Value) (K : Value → WP) : WP := FnK P (.one .raw) 33 #[a0, a1] K
abbrev ref16_Names (a0 : Value) (K : Value → Bool → WP) : WP := FnK P (.tup [.raw, .bool]) 34 #[a0] K
abbrev ref16_Select (a0 : Value) (a1 : Value) (K : Value → WP) : WP := FnK P (.one .raw) 35 #[a0, a1] K
abbrev lru_New (a0 : Int) (K : Value → Int → WP) : WP := FnK P (.tup [.raw, (.int .i64)]) 36 #[(.int .i64 a0)] K
abbrev store_Store_gone (a0 : Value) (a1 : Value) (K : Int → WP) : WP := FnK P (.one (.int .i64)) 37 #[a0, a1] K
abbrev store_Store_Put_c1 (a0 : Value) (a1 : Value) (K : Bool → WP) : WP := FnK P (.one .bool) 38 #[a0, a1] K
abbrev store_Store_count (a0 : Value) (K : Int → WP) : WP := FnK P (.one (.int .i64)) 39 #[a0] K
abbrev lru_List_Victim (a0 : Value) (K : Int → Bool → WP) : WP := FnK P (.tup [(.int .i64), .bool]) 40 #[a0] K
abbrev store_Store_out (a0 : Value) (a1 : Int) (K : Value → WP) : WP := FnK P (.one .raw) 41 #[a0, (.int .i64 a1)] K
abbrev slices_IndexFunc_slot (a0 : Value) (a1 : Value) (K : Int → WP) : WP := FnK P (.one (.int .i64)) 42 #[a0, a1] K
abbrev store_Store_Put_c2 (a0 : Value) (K : Bool → WP) : WP := FnK P (.one .bool) 43 #[a0] K
abbrev store_copied (a0 : Value) (K : Value → WP) : WP := FnK P (.one .raw) 44 #[a0] K
abbrev lru_List_Add (a0 : Value) (a1 : Int) (K : Int → WP) : WP := FnK P (.one (.int .i64)) 45 #[a0, (.int .i64 a1)] K
abbrev store_Store_find (a0 : Value) (a1 : ByteArray) (a2 : Value) (K : Int → Bool → WP) : WP := FnK P (.tup [(.int .i64), .bool]) 46 #[a0, (.string a1), a2] K
abbrev lru_List_Touch (a0 : Value) (a1 : Int) (K : Int → WP) : WP := FnK P (.one (.int .i64)) 47 #[a0, (.int .i64 a1)] K
abbrev ref09_SameFields (a0 : Value) (a1 : Value) (K : Bool → WP) : WP := FnK P (.one .bool) 48 #[a0, a1] K
abbrev ref09_SameResponse (a0 : Value) (a1 : Value) (K : Bool → WP) : WP := FnK P (.one .bool) 49 #[a0, a1] K
abbrev store_Store_Drop_c1 (a0 : Value) (a1 : Value) (K : Bool → WP) : WP := FnK P (.one .bool) 50 #[a0, a1] K
abbrev store_Store_all (a0 : Value) (K : Value → WP) : WP := FnK P (.one .raw) 51 #[a0] K
abbrev ref20_New (a0 : Int) (K : Value → Int → WP) : WP := FnK P (.tup [.raw, (.int .i64)]) 52 #[(.int .i64 a0)] K
abbrev ref09_Own (a0 : Value) (K : Value → WP) : WP := FnK P (.one .raw) 53 #[a0] K
abbrev ref21_Store_out (a0 : Value) (a1 : Int) (K : Value → WP) : WP := FnK P (.one .raw) 54 #[a0, (.int .i64 a1)] K
abbrev ref21_Store_Used (a0 : Value) (K : Int → WP) : WP := FnK P (.one (.int .i64)) 55 #[a0] K
abbrev ref20_List_Victim (a0 : Value) (K : Int → Bool → WP) : WP := FnK P (.tup [(.int .i64), .bool]) 56 #[a0] K
abbrev ref20_List_Add (a0 : Value) (a1 : Int) (K : Int → WP) : WP := FnK P (.one (.int .i64)) 57 #[a0, (.int .i64 a1)] K
abbrev ref21_Store_find (a0 : Value) (a1 : ByteArray) (a2 : Value) (K : Int → WP) : WP := FnK P (.one (.int .i64)) 58 #[a0, (.string a1), a2] K
abbrev ref20_List_Touch (a0 : Value) (a1 : Int) (K : Int → WP) : WP := FnK P (.one (.int .i64)) 59 #[a0, (.int .i64 a1)] K
abbrev lru_List_Copy (a0 : Value) (K : Value → WP) : WP := FnK P (.one .raw) 60 #[a0] K
abbrev hop_Elements (a0 : Value) (a1 : ByteArray) (K : Value → WP) : WP := FnK P (.one .raw) 61 #[a0, (.string a1)] K
abbrev text_Lower (a0 : ByteArray) (K : ByteArray → WP) : WP := FnK P (.one .str) 62 #[(.string a0)] K
abbrev slices_Equal_Field (a0 : Value) (a1 : Value) (K : Bool → WP) : WP := FnK P (.one .bool) 63 #[a0, a1] K
abbrev vary_Select_c1 (a0 : ByteArray) (a1 : Value) (a2 : Value) (K : Value → WP) : WP := FnK P (.one .raw) 64 #[(.string a0), a1, a2] K
abbrev head_Get (a0 : Value) (a1 : ByteArray) (K : Value → WP) : WP := FnK P (.one .raw) 65 #[a0, (.string a1)] K
abbrev strings_Join (a0 : Value) (a1 : ByteArray) (K : ByteArray → WP) : WP := FnK P (.one .str) 66 #[a0, (.string a1)] K
abbrev ref11_Elements (a0 : Value) (a1 : ByteArray) (K : Value → WP) : WP := FnK P (.one .raw) 67 #[a0, (.string a1)] K
abbrev ref02_Lower (a0 : ByteArray) (K : ByteArray → WP) : WP := FnK P (.one .str) 68 #[(.string a0)] K
abbrev ref02_Same (a0 : ByteArray) (a1 : ByteArray) (K : Bool → WP) : WP := FnK P (.one .bool) 69 #[(.string a0), (.string a1)] K
abbrev lru_List_Tried (a0 : Value) (K : Value → WP) : WP := FnK P (.one .raw) 70 #[a0] K
abbrev lru_List_Kept (a0 : Value) (K : Value → WP) : WP := FnK P (.one .raw) 71 #[a0] K
abbrev lru_List_Remove (a0 : Value) (a1 : Int) (K : Int → WP) : WP := FnK P (.one (.int .i64)) 72 #[a0, (.int .i64 a1)] K
abbrev slices_Clone_Field (a0 : Value) (K : Value → WP) : WP := FnK P (.one .raw) 73 #[a0] K
abbrev bytes_Clone (a0 : Value) (K : Value → WP) : WP := FnK P (.one .raw) 74 #[a0] K
abbrev lru_List_ready (a0 : Value) (a1 : Int) (a2 : Bool) (K : Int → WP) : WP := FnK P (.one (.int .i64)) 75 #[a0, (.int .i64 a1), (.bool a2)] K
abbrev lru_List_put (a0 : Value) (a1 : Int) (a2 : Value) (K : Value → WP) : WP := FnK P (.one .raw) 76 #[a0, (.int .i64 a1), a2] K
abbrev store_Store_all_c1 (a0 : Value) (a1 : Value) (K : Value → WP) : WP := FnK P (.one .raw) 77 #[a0, a1] K
abbrev ref20_List_Remove (a0 : Value) (a1 : Int) (K : Int → WP) : WP := FnK P (.one (.int .i64)) 78 #[a0, (.int .i64 a1)] K
abbrev ref20_may (a0 : Int) (K : Bool → WP) : WP := FnK P (.one .bool) 79 #[(.int .i64 a0)] K
abbrev ref20_List_Has (a0 : Value) (a1 : Int) (K : Bool → WP) : WP := FnK P (.one .bool) 80 #[a0, (.int .i64 a1)] K
abbrev ref20_ahead (a0 : Value) (a1 : Int) (K : Value → WP) : WP := FnK P (.one .raw) 81 #[a0, (.int .i64 a1)] K
abbrev ref20_without (a0 : Value) (a1 : Int) (K : Value → WP) : WP := FnK P (.one .raw) 82 #[a0, (.int .i64 a1)] K
abbrev maps_Clone_int_complex128 (a0 : Value) (K : Value → WP) : WP := FnK P (.one .raw) 83 #[a0] K
abbrev text_List (a0 : ByteArray) (K : Value → WP) : WP := FnK P (.one .raw) 84 #[(.string a0)] K
abbrev text_Same (a0 : ByteArray) (a1 : ByteArray) (K : Bool → WP) : WP := FnK P (.one .bool) 85 #[(.string a0), (.string a1)] K
abbrev strings_Builder_Grow (a0 : Value) (a1 : Int) (K : Value → WP) : WP := FnK P (.one .raw) 86 #[a0, (.int .i64 a1)] K
abbrev strings_Builder_WriteString (a0 : Value) (a1 : ByteArray) (K : Int → Value → WP) : WP := FnK P (.tup [(.int .i64), .raw]) 87 #[a0, (.string a1)] K
abbrev strings_Builder_String (a0 : Value) (K : ByteArray → WP) : WP := FnK P (.one .str) 88 #[a0] K
abbrev ref02_List (a0 : ByteArray) (K : Value → WP) : WP := FnK P (.one .raw) 89 #[(.string a0)] K
abbrev lru_List_in (a0 : Value) (a1 : Value) (K : Value → WP) : WP := FnK P (.one .raw) 90 #[a0, a1] K
abbrev ref20_has (a0 : Value) (a1 : Int) (K : Bool → WP) : WP := FnK P (.one .bool) 91 #[a0, (.int .i64 a1)] K
abbrev text_List_c1 (a0 : Int) (a1 : Value) (a2 : Value) (a3 : Value) (K : Value → WP) : WP := FnK P (.one .raw) 93 #[(.int .i64 a0), a1, a2, a3] K
abbrev text_Trim (a0 : ByteArray) (K : ByteArray → WP) : WP := FnK P (.one .str) 94 #[(.string a0)] K
abbrev strings_Builder_copyCheck (a0 : Value) (K : Value → WP) : WP := FnK P (.one .raw) 95 #[a0] K
abbrev strings_Builder_grow (a0 : Value) (a1 : Int) (K : Value → WP) : WP := FnK P (.one .raw) 96 #[a0, (.int .i64 a1)] K
abbrev ref02_quoted (a0 : ByteArray) (a1 : Int) (K : Int → WP) : WP := FnK P (.one (.int .i64)) 97 #[(.string a0), (.int .i64 a1)] K
abbrev ref02_Trim (a0 : ByteArray) (K : ByteArray → WP) : WP := FnK P (.one .str) 98 #[(.string a0)] K
abbrev slices_SortFunc_int (a0 : Value) (a1 : Value) (K : Value → WP) : WP := FnK P (.one .raw) 99 #[a0, a1] K
abbrev lru_List_in_c1 (a0 : Int) (a1 : Int) (a2 : Value) (K : Int → WP) : WP := FnK P (.one (.int .i64)) 100 #[(.int .i64 a0), (.int .i64 a1), a2] K
abbrev cmp_Compare_float64 (a0 : Value) (a1 : Value) (K : Int → WP) : WP := FnK P (.one (.int .i64)) 101 #[a0, a1] K
abbrev strings_Trim (a0 : ByteArray) (a1 : ByteArray) (K : ByteArray → WP) : WP := FnK P (.one .str) 102 #[(.string a0), (.string a1)] K
abbrev slices_pdqsortCmpFunc_int (a0 : Value) (a1 : Int) (a2 : Int) (a3 : Int) (a4 : Value) (K : Value → WP) : WP := FnK P (.one .raw) 105 #[a0, (.int .i64 a1), (.int .i64 a2), (.int .i64 a3), a4] K
abbrev bits_Len (a0 : Int) (K : Int → WP) : WP := FnK P (.one (.int .i64)) 106 #[(.int .u64 a0)] K
abbrev cmp_isNaN_float64 (a0 : Value) (K : Bool → WP) : WP := FnK P (.one .bool) 107 #[a0] K
abbrev strings_trimLeftByte (a0 : ByteArray) (a1 : Int) (K : ByteArray → WP) : WP := FnK P (.one .str) 108 #[(.string a0), (.int .u8 a1)] K
abbrev strings_trimRightByte (a0 : ByteArray) (a1 : Int) (K : ByteArray → WP) : WP := FnK P (.one .str) 109 #[(.string a0), (.int .u8 a1)] K
abbrev strings_makeASCIISet (a0 : ByteArray) (K : Value → Bool → WP) : WP := FnK P (.tup [.raw, .bool]) 110 #[(.string a0)] K
abbrev strings_trimLeftASCII (a0 : ByteArray) (a1 : Value) (K : ByteArray → WP) : WP := FnK P (.one .str) 111 #[(.string a0), a1] K
abbrev strings_trimRightASCII (a0 : ByteArray) (a1 : Value) (K : ByteArray → WP) : WP := FnK P (.one .str) 112 #[(.string a0), a1] K
abbrev strings_trimLeftUnicode (a0 : ByteArray) (a1 : ByteArray) (K : ByteArray → WP) : WP := FnK P (.one .str) 113 #[(.string a0), (.string a1)] K
abbrev strings_trimRightUnicode (a0 : ByteArray) (a1 : ByteArray) (K : ByteArray → WP) : WP := FnK P (.one .str) 114 #[(.string a0), (.string a1)] K
abbrev slices_insertionSortCmpFunc_int (a0 : Value) (a1 : Int) (a2 : Int) (a3 : Value) (K : Value → WP) : WP := FnK P (.one .raw) 115 #[a0, (.int .i64 a1), (.int .i64 a2), a3] K
abbrev slices_heapSortCmpFunc_int (a0 : Value) (a1 : Int) (a2 : Int) (a3 : Value) (K : Value → WP) : WP := FnK P (.one .raw) 116 #[a0, (.int .i64 a1), (.int .i64 a2), a3] K
abbrev slices_breakPatternsCmpFunc_int (a0 : Value) (a1 : Int) (a2 : Int) (a3 : Value) (K : Value → WP) : WP := FnK P (.one .raw) 117 #[a0, (.int .i64 a1), (.int .i64 a2), a3] K
abbrev slices_choosePivotCmpFunc_int (a0 : Value) (a1 : Int) (a2 : Int) (a3 : Value) (K : Int → Int → WP) : WP := FnK P (.tup [(.int .i64), (.int .i64)]) 118 #[a0, (.int .i64 a1), (.int .i64 a2), a3] K
abbrev slices_reverseRangeCmpFunc_int (a0 : Value) (a1 : Int) (a2 : Int) (a3 : Value) (K : Value → WP) : WP := FnK P (.one .raw) 119 #[a0, (.int .i64 a1), (.int .i64 a2), a3] K
abbrev slices_partialInsertionSortCmpFunc_int (a0 : Value) (a1 : Int) (a2 : Int) (a3 : Value) (K : Bool → WP) : WP := FnK P (.one .bool) 120 #[a0, (.int .i64 a1), (.int .i64 a2), a3] K
abbrev slices_partitionEqualCmpFunc_int (a0 : Value) (a1 : Int) (a2 : Int) (a3 : Int) (a4 : Value) (K : Int → WP) : WP := FnK P (.one (.int .i64)) 121 #[a0, (.int .i64 a1), (.int .i64 a2), (.int .i64 a3), a4] K
abbrev slices_partitionCmpFunc_int (a0 : Value) (a1 : Int) (a2 : Int) (a3 : Int) (a4 : Value) (K : Int → Bool → WP) : WP := FnK P (.tup [(.int .i64), .bool]) 122 #[a0, (.int .i64 a1), (.int .i64 a2), (.int .i64 a3), a4] K
abbrev bits_Len32 (a0 : Int) (K : Int → WP) : WP := FnK P (.one (.int .i64)) 123 #[(.int .u32 a0)] K
abbrev bits_Len64 (a0 : Int) (K : Int → WP) : WP := FnK P (.one (.int .i64)) 124 #[(.int .u64 a0)] K
abbrev strings_asciiSet_contains (a0 : Value) (a1 : Int) (K : Bool → WP) : WP := FnK P (.one .bool) 125 #[a0, (.int .u8 a1)] K
abbrev utf8_DecodeRuneInString (a0 : ByteArray) (K : Int → Int → WP) : WP := FnK P (.tup [(.int .i32), (.int .i64)]) 126 #[(.string a0)] K
abbrev strings_ContainsRune (a0 : ByteArray) (a1 : Int) (K : Bool → WP) : WP := FnK P (.one .bool) 127 #[(.string a0), (.int .i32 a1)] K
abbrev utf8_DecodeLastRuneInString (a0 : ByteArray) (K : Int → Int → WP) : WP := FnK P (.tup [(.int .i32), (.int .i64)]) 128 #[(.string a0)] K
abbrev slices_siftDownCmpFunc_int (a0 : Value) (a1 : Int) (a2 : Int) (a3 : Int) (a4 : Value) (K : Value → WP) : WP := FnK P (.one .raw) 129 #[a0, (.int .i64 a1), (.int .i64 a2), (.int .i64 a3), a4] K
abbrev slices_nextPowerOfTwo (a0 : Int) (K : Int → WP) : WP := FnK P (.one (.int .u64)) 130 #[(.int .i64 a0)] K
abbrev slices_xorshift_Next (a0 : Value) (K : Int → WP) : WP := FnK P (.one (.int .u64)) 131 #[a0] K
abbrev slices_medianAdjacentCmpFunc_int (a0 : Value) (a1 : Int) (a2 : Value) (a3 : Value) (K : Int → WP) : WP := FnK P (.one (.int .i64)) 132 #[a0, (.int .i64 a1), a2, a3] K
abbrev slices_medianCmpFunc_int (a0 : Value) (a1 : Int) (a2 : Int) (a3 : Int) (a4 : Value) (a5 : Value) (K : Int → WP) : WP := FnK P (.one (.int .i64)) 133 #[a0, (.int .i64 a1), (.int .i64 a2), (.int .i64 a3), a4, a5] K
abbrev utf8_decodeRuneInStringSlow (a0 : ByteArray) (K : Int → Int → WP) : WP := FnK P (.tup [(.int .i32), (.int .i64)]) 134 #[(.string a0)] K
abbrev strings_IndexRune (a0 : ByteArray) (a1 : Int) (K : Int → WP) : WP := FnK P (.one (.int .i64)) 135 #[(.string a0), (.int .i32 a1)] K
abbrev utf8_RuneStart (a0 : Int) (K : Bool → WP) : WP := FnK P (.one .bool) 136 #[(.int .u8 a0)] K
abbrev slices_order2CmpFunc_int (a0 : Value) (a1 : Int) (a2 : Int) (a3 : Value) (a4 : Value) (K : Int → Int → WP) : WP := FnK P (.tup [(.int .i64), (.int .i64)]) 137 #[a0, (.int .i64 a1), (.int .i64 a2), a3, a4] K
abbrev strings_IndexByte (a0 : ByteArray) (a1 : Int) (K : Int → WP) : WP := FnK P (.one (.int .i64)) 138 #[(.string a0), (.int .u8 a1)] K
abbrev utf8_ValidRune (a0 : Int) (K : Bool → WP) : WP := FnK P (.one .bool) 139 #[(.int .i32 a0)] K
abbrev bytealg_Cutover (a0 : Int) (K : Int → WP) : WP := FnK P (.one (.int .i64)) 140 #[(.int .i64 a0)] K
abbrev stringslite_IndexByte (a0 : ByteArray) (a1 : Int) (K : Int → WP) : WP := FnK P (.one (.int .i64)) 142 #[(.string a0), (.int .u8 a1)] K
abbrev gosem_cut_vars (K : Value → WP) : WP := FnK P (.one .raw) 165 #[] K
end Go.Proofs.YtfofnagocedlgaaGreatDoor
end
section
/-
  THE SECOND LAYER: what is held of memory, as a list of parts that lie apart ('Ent e ctx prog': whoever holds 'ctx' may run 'prog').
-/
set_option maxRecDepth 100000
set_option linter.unusedVariables false
set_option linter.unusedSimpArgs false
namespace Go.Proofs.YtfofnagocedlgaaGreatDoor.Sl
open Go Sh

abbrev Hp := Nat → Option Obj
abbrev HProp := Hp → Prop
def Hp.le (a b : Hp) : Prop := ∀ i o, a i = some o → b i = some o
def Hp.disj (a b : Hp) : Prop := ∀ i, a i = none ∨ b i = none
theorem Hp.le_refl (a : Hp) : Hp.le a a := fun _ _ h => h
theorem Hp.le_trans {a b c : Hp} (h : Hp.le a b) (k : Hp.le b c) : Hp.le a c := fun i o x => k i o (h i o x)
theorem Hp.disj_symm {a b : Hp} (h : Hp.disj a b) : Hp.disj b a := fun i => (h i).symm
def sepL : List HProp → HProp
  | [] => fun _ => True
  | A :: l => fun h => ∃ h1 h2, Hp.disj h1 h2 ∧ Hp.le h1 h ∧ Hp.le h2 h ∧ A h1 ∧ sepL l h2
def hpOf (w : World) : Hp := fun b => w.heap[b]?

theorem sepL_mono {l : List HProp} {h h' : Hp} (hl : Hp.le h h') (k : sepL l h) : sepL l h' := by
  cases l with
  | nil => trivial
  | cons A l =>
    obtain ⟨h1, h2, hd, l1, l2, hA, hr⟩ := k
    exact ⟨h1, h2, hd, Hp.le_trans l1 hl, Hp.le_trans l2 hl, hA, hr⟩
theorem sepL_swap {A B : HProp} {l : List HProp} {h : Hp} (k : sepL (A :: B :: l) h) : sepL (B :: A :: l) h := by
  obtain ⟨h1, h2, hd, l1, l2, hA, h3, h4, hd', l3, l4, hB, hr⟩ := k
  -- h3 for B, and h1 with h4
  let h5 : Hp := fun i => match h1 i with | some o => some o | none => h4 i
  have d34 := hd'
  refine ⟨h3, h5, ?_, Hp.le_trans l3 l2, ?_, hB, h1, h4, ?_, ?_, ?_, hA, hr⟩
  · intro i
    cases e3 : h3 i with
    | none => exact .inl rfl
    | some o =>
      refine .inr ?_
      have a1 : h1 i = none := by
        rcases hd i with a | a
        · exact a
        · rw [l3 i o e3] at a; cases a
      have a4 : h4 i = none := by
        rcases d34 i with a | a
        · rw [e3] at a; cases a
        · exact a
      simp [h5, a1, a4]
  · intro i o e
    simp only [h5] at e
    cases e1 : h1 i with
    | none => rw [e1] at e; exact l2 i o (l4 i o e)
    | some o' => rw [e1] at e; cases e; exact l1 i _ e1
  · intro i
    rcases hd i with a | a
    · exact .inl a
    · refine .inr ?_
      cases e4 : h4 i with
      | none => rfl
      | some o => rw [l4 i o e4] at a; cases a
  · intro i o e; simp [h5, e]
  · intro i o e
    simp only [h5]
    rcases hd i with a | a
    · rw [a]; exact e
    · rw [l4 i o e] at a; cases a
theorem sepL_cons {A A' : HProp} {l l' : List HProp} {h : Hp} (hA : ∀ h, A h → A' h) (hl : ∀ h, sepL l h → sepL l' h) (k : sepL (A :: l) h) : sepL (A' :: l') h := by
  obtain ⟨h1, h2, hd, l1, l2, a, r⟩ := k
  exact ⟨h1, h2, hd, l1, l2, hA _ a, hl _ r⟩
theorem sepL_perm {l l' : List HProp} (p : l.Perm l') : ∀ h, sepL l h → sepL l' h := by
  induction p with
  | nil => exact fun _ h => h
  | cons A _ ih => exact fun h k => sepL_cons (fun _ a => a) ih k
  | swap A B l => exact fun h k => sepL_swap k
  | trans _ _ ih1 ih2 => exact fun h k => ih2 h (ih1 h k)
theorem sepL_drop {A : HProp} {l : List HProp} {h : Hp} (k : sepL (A :: l) h) : sepL l h := by
  obtain ⟨h1, h2, _, _, l2, _, r⟩ := k
  exact sepL_mono l2 r
/-- two lists in one -/
theorem sepL_append : ∀ (l r : List HProp) (h : Hp), sepL (l ++ r) h ↔ ∃ h1 h2, Hp.disj h1 h2 ∧ Hp.le h1 h ∧ Hp.le h2 h ∧ sepL l h1 ∧ sepL r h2
  | [], r, h => ⟨fun k => ⟨fun _ => none, h, fun _ => .inl rfl, (fun _ _ e => by cases e), Hp.le_refl h, trivial, k⟩, fun ⟨_, _, _, _, l2, _, k⟩ => sepL_mono l2 k⟩
  | A :: l, r, h => by
    constructor
    · rintro ⟨h1, h2, hd, l1, l2, hA, k⟩
      obtain ⟨h3, h4, hd', l3, l4, k1, k2⟩ := (sepL_append l r h2).1 k
      let h5 : Hp := fun i => match h1 i with | some o => some o | none => h3 i
      refine ⟨h5, h4, ?_, ?_, Hp.le_trans l4 l2, ⟨h1, h3, ?_, ?_, ?_, hA, k1⟩, k2⟩
      · intro i
        cases e4 : h4 i with
        | none => exact .inr rfl
        | some o =>
          refine .inl ?_
          have a1 : h1 i = none := by
            rcases hd i with a | a
            · exact a
            · rw [l4 i o e4] at a; cases a
          have a3 : h3 i = none := by
            rcases hd' i with a | a
            · exact a
            · rw [e4] at a; cases a
          simp [h5, a1, a3]
      · intro i o e
        simp only [h5] at e
        cases e1 : h1 i with
        | none => rw [e1] at e; exact l2 i o (l3 i o e)
        | some o' => rw [e1] at e; cases e; exact l1 i _ e1
      · intro i
        rcases hd i with a | a
        · exact .inl a
        · refine .inr ?_
          cases e3 : h3 i with
          | none => rfl
          | some o => rw [l3 i o e3] at a; cases a
      · intro i o e; simp [h5, e]
      · intro i o e
        simp only [h5]
        rcases hd i with a | a
        · rw [a]; exact e
        · rw [l3 i o e] at a; cases a
    · rintro ⟨h1, h2, hd, l1, l2, ⟨h3, h4, hd', l3, l4, hA, k1⟩, k2⟩
      let h5 : Hp := fun i => match h4 i with | some o => some o | none => h2 i
      refine ⟨h3, h5, ?_, Hp.le_trans l3 l1, ?_, hA, (sepL_append l r h5).2 ⟨h4, h2, ?_, ?_, ?_, k1, k2⟩⟩
      · intro i
        cases e3 : h3 i with
        | none => exact .inl rfl
        | some o =>
          refine .inr ?_
          have a4 : h4 i = none := by
            rcases hd' i with a | a
            · rw [e3] at a; cases a
            · exact a
          have a2 : h2 i = none := by
            rcases hd i with a | a
            · rw [l3 i o e3] at a; cases a
            · exact a
          simp [h5, a2, a4]
      · intro i o e
        simp only [h5] at e
        cases e4 : h4 i with
        | none => rw [e4] at e; exact l2 i o e
        | some o' => rw [e4] at e; cases e; exact l1 i _ (l4 i _ e4)
      · intro i
        rcases hd i with a | a
        · refine .inl ?_
          cases e4 : h4 i with
          | none => rfl
          | some o => rw [l4 i o e4] at a; cases a
        · exact .inr a
      · intro i o e; simp [h5, e]
      · intro i o e
        simp only [h5]
        rcases hd i with a | a
        · cases e4 : h4 i with
          | none => exact e
          | some o' => rw [l4 i _ e4] at a; cases a
        · rw [e] at a; cases a
theorem sepL_grp {l r : List HProp} {h : Hp} : sepL (sepL l :: r) h ↔ sepL (l ++ r) h := by
  rw [sepL_append]; rfl

/-! parts -/
/-- a block of cells that nobody froze -/
def pt (b : Nat) (l : List Value) : HProp := fun h => ∃ T fr, h b = some (.cells l.toArray T fr) ∧ ∀ i, i < l.length → ¬ (fr.1 ≤ i ∧ i < fr.2)
/-- a block just made -/
def p0 (b : Nat) (l : List Value) : HProp := fun h => ∃ T, h b = some (.cells l.toArray T)
/-- any object -/
def ob (b : Nat) (o : Obj) : HProp := fun h => h b = some o
def pur (φ : Prop) : HProp := fun _ => φ
def exs {α : Type} (A : α → HProp) : HProp := fun h => ∃ x, A x h

/-! worlds -/
structure Env where
  os : Os
  tape : Nat → Question → Nat
  output : Array (Nat × ByteArray)
structure Sat (e : Env) (R : HProp) (w : World) : Prop where
  os : w.os = e.os
  tape : w.tape = e.tape
  output : w.output = e.output
  heap : R (hpOf w)
def Ent (e : Env) (ctx : List HProp) (c : WP) : Prop := ∀ w, Sat e (sepL ctx) w → c w
def Imp (ctx ctx' : List HProp) : Prop := ∀ h, sepL ctx h → sepL ctx' h

section
variable {e : Env} {ctx ctx' : List HProp} {c : WP}
theorem Sat.imp {A B : HProp} {w : World} (h : Sat e A w) (hi : ∀ h, A h → B h) : Sat e B w := ⟨h.os, h.tape, h.output, hi _ h.heap⟩
theorem Ent.imp (hi : Imp ctx ctx') (h : Ent e ctx' c) : Ent e ctx c := fun w hw => h w (hw.imp hi)
theorem Ent.perm (p : ctx.Perm ctx') (h : Ent e ctx' c) : Ent e ctx c := h.imp (sepL_perm p)
theorem Ent.drop {A : HProp} (h : Ent e ctx c) : Ent e (A :: ctx) c := h.imp fun _ => sepL_drop
theorem Ent.pur {φ : Prop} (h : φ → Ent e ctx c) : Ent e (pur φ :: ctx) c := fun w hw => by
  obtain ⟨h1, h2, _, _, l2, hp, r⟩ := hw.heap
  exact h hp w ⟨hw.os, hw.tape, hw.output, sepL_mono l2 r⟩
theorem Ent.exs {α : Type} {A : α → HProp} (h : ∀ x, Ent e (A x :: ctx) c) : Ent e (exs A :: ctx) c := fun w hw => by
  obtain ⟨h1, h2, hd, l1, l2, ⟨x, hp⟩, r⟩ := hw.heap
  exact h x w ⟨hw.os, hw.tape, hw.output, h1, h2, hd, l1, l2, hp, r⟩
theorem Ent.grp {l : List HProp} (h : Ent e (l ++ ctx) c) : Ent e (sepL l :: ctx) c := h.imp fun _ => sepL_grp.1
theorem Ent.ungrp {l : List HProp} (h : Ent e (sepL l :: ctx) c) : Ent e (l ++ ctx) c := h.imp fun _ => sepL_grp.2
/-- opening the first part -/
theorem Ent.open {A : HProp} {l : List HProp} (hA : ∀ h, A h → sepL l h) (h : Ent e (l ++ ctx) c) : Ent e (A :: ctx) c :=
  (Ent.grp h).imp fun _ k => sepL_cons hA (fun _ x => x) k
/-- folding the first parts -/
theorem Ent.fold {A : HProp} {l : List HProp} (hA : ∀ h, sepL l h → A h) (h : Ent e (A :: ctx) c) : Ent e (l ++ ctx) c :=
  (h.imp fun _ k => sepL_cons hA (fun _ x => x) k).ungrp
theorem Imp.refl (l : List HProp) : Imp l l := fun _ h => h
theorem Imp.trans {a b c : List HProp} (h : Imp a b) (k : Imp b c) : Imp a c := fun x y => k x (h x y)
theorem Imp.drop {A : HProp} {l l' : List HProp} (h : Imp l l') : Imp (A :: l) l' := fun _ k => h _ (sepL_drop k)
theorem Imp.cons {A : HProp} {l l' : List HProp} (h : Imp l l') : Imp (A :: l) (A :: l') := fun _ k => sepL_cons (fun _ a => a) h k
theorem Imp.perm {l l' : List HProp} (h : l.Perm l') : Imp l l' := sepL_perm h
theorem Imp.nil (l : List HProp) : Imp l [] := fun _ _ => trivial
theorem Imp.pur {φ : Prop} {l l' : List HProp} (hp : φ) (h : Imp l l') : Imp l (Sl.pur φ :: l') := fun x k =>
  ⟨fun _ => none, x, fun _ => .inl rfl, (fun _ _ e => by cases e), Hp.le_refl x, hp, h x k⟩

theorem Imp.exs {α : Type} {A : α → HProp} {l l' : List HProp} (x : α) (h : Imp l (A x :: l')) : Imp l (Sl.exs A :: l') := fun y k => sepL_cons (fun _ a => ⟨x, a⟩) (fun _ z => z) (h y k)
theorem Imp.grp {l r m : List HProp} (h : Imp m (l ++ r)) : Imp m (sepL l :: r) := fun y k => sepL_grp.2 (h y k)
theorem Imp.fold {A : HProp} {l r m : List HProp} (hA : ∀ h, sepL l h → A h) (h : Imp m (l ++ r)) : Imp m (A :: r) := fun y k => sepL_cons hA (fun _ z => z) (sepL_grp.2 (h y k))

theorem Ent.g1 {A0 : HProp} (h : Ent e (A0 :: ctx) c) : Ent e (sepL [A0] :: ctx) c := Ent.grp (l := [A0]) h
theorem Imp.g1 {A0 : HProp} {l r : List HProp} (h : Imp l (A0 :: r)) : Imp l (sepL [A0] :: r) := fun y k => (sepL_grp (l := [A0])).2 (h y k)
theorem Ent.g2 {A0 A1 : HProp} (h : Ent e (A0 :: A1 :: ctx) c) : Ent e (sepL [A0, A1] :: ctx) c := Ent.grp (l := [A0, A1]) h
theorem Imp.g2 {A0 A1 : HProp} {l r : List HProp} (h : Imp l (A0 :: A1 :: r)) : Imp l (sepL [A0, A1] :: r) := fun y k => (sepL_grp (l := [A0, A1])).2 (h y k)
theorem Ent.g3 {A0 A1 A2 : HProp} (h : Ent e (A0 :: A1 :: A2 :: ctx) c) : Ent e (sepL [A0, A1, A2] :: ctx) c := Ent.grp (l := [A0, A1, A2]) h
theorem Imp.g3 {A0 A1 A2 : HProp} {l r : List HProp} (h : Imp l (A0 :: A1 :: A2 :: r)) : Imp l (sepL [A0, A1, A2] :: r) := fun y k => (sepL_grp (l := [A0, A1, A2])).2 (h y k)
theorem Ent.g4 {A0 A1 A2 A3 : HProp} (h : Ent e (A0 :: A1 :: A2 :: A3 :: ctx) c) : Ent e (sepL [A0, A1, A2, A3] :: ctx) c := Ent.grp (l := [A0, A1, A2, A3]) h
theorem Imp.g4 {A0 A1 A2 A3 : HProp} {l r : List HProp} (h : Imp l (A0 :: A1 :: A2 :: A3 :: r)) : Imp l (sepL [A0, A1, A2, A3] :: r) := fun y k => (sepL_grp (l := [A0, A1, A2, A3])).2 (h y k)
theorem Ent.g5 {A0 A1 A2 A3 A4 : HProp} (h : Ent e (A0 :: A1 :: A2 :: A3 :: A4 :: ctx) c) : Ent e (sepL [A0, A1, A2, A3, A4] :: ctx) c := Ent.grp (l := [A0, A1, A2, A3, A4]) h
theorem Imp.g5 {A0 A1 A2 A3 A4 : HProp} {l r : List HProp} (h : Imp l (A0 :: A1 :: A2 :: A3 :: A4 :: r)) : Imp l (sepL [A0, A1, A2, A3, A4] :: r) := fun y k => (sepL_grp (l := [A0, A1, A2, A3, A4])).2 (h y k)
theorem Ent.g6 {A0 A1 A2 A3 A4 A5 : HProp} (h : Ent e (A0 :: A1 :: A2 :: A3 :: A4 :: A5 :: ctx) c) : Ent e (sepL [A0, A1, A2, A3, A4, A5] :: ctx) c := Ent.grp (l := [A0, A1, A2, A3, A4, A5]) h
theorem Imp.g6 {A0 A1 A2 A3 A4 A5 : HProp} {l r : List HProp} (h : Imp l (A0 :: A1 :: A2 :: A3 :: A4 :: A5 :: r)) : Imp l (sepL [A0, A1, A2, A3, A4, A5] :: r) := fun y k => (sepL_grp (l := [A0, A1, A2, A3, A4, A5])).2 (h y k)
theorem Ent.g7 {A0 A1 A2 A3 A4 A5 A6 : HProp} (h : Ent e (A0 :: A1 :: A2 :: A3 :: A4 :: A5 :: A6 :: ctx) c) : Ent e (sepL [A0, A1, A2, A3, A4, A5, A6] :: ctx) c := Ent.grp (l := [A0, A1, A2, A3, A4, A5, A6]) h
theorem Imp.g7 {A0 A1 A2 A3 A4 A5 A6 : HProp} {l r : List HProp} (h : Imp l (A0 :: A1 :: A2 :: A3 :: A4 :: A5 :: A6 :: r)) : Imp l (sepL [A0, A1, A2, A3, A4, A5, A6] :: r) := fun y k => (sepL_grp (l := [A0, A1, A2, A3, A4, A5, A6])).2 (h y k)
theorem Ent.g8 {A0 A1 A2 A3 A4 A5 A6 A7 : HProp} (h : Ent e (A0 :: A1 :: A2 :: A3 :: A4 :: A5 :: A6 :: A7 :: ctx) c) : Ent e (sepL [A0, A1, A2, A3, A4, A5, A6, A7] :: ctx) c := Ent.grp (l := [A0, A1, A2, A3, A4, A5, A6, A7]) h
theorem Imp.g8 {A0 A1 A2 A3 A4 A5 A6 A7 : HProp} {l r : List HProp} (h : Imp l (A0 :: A1 :: A2 :: A3 :: A4 :: A5 :: A6 :: A7 :: r)) : Imp l (sepL [A0, A1, A2, A3, A4, A5, A6, A7] :: r) := fun y k => (sepL_grp (l := [A0, A1, A2, A3, A4, A5, A6, A7])).2 (h y k)
theorem Ent.g9 {A0 A1 A2 A3 A4 A5 A6 A7 A8 : HProp} (h : Ent e (A0 :: A1 :: A2 :: A3 :: A4 :: A5 :: A6 :: A7 :: A8 :: ctx) c) : Ent e (sepL [A0, A1, A2, A3, A4, A5, A6, A7, A8] :: ctx) c := Ent.grp (l := [A0, A1, A2, A3, A4, A5, A6, A7, A8]) h
theorem Imp.g9 {A0 A1 A2 A3 A4 A5 A6 A7 A8 : HProp} {l r : List HProp} (h : Imp l (A0 :: A1 :: A2 :: A3 :: A4 :: A5 :: A6 :: A7 :: A8 :: r)) : Imp l (sepL [A0, A1, A2, A3, A4, A5, A6, A7, A8] :: r) := fun y k => (sepL_grp (l := [A0, A1, A2, A3, A4, A5, A6, A7, A8])).2 (h y k)
theorem Ent.g10 {A0 A1 A2 A3 A4 A5 A6 A7 A8 A9 : HProp} (h : Ent e (A0 :: A1 :: A2 :: A3 :: A4 :: A5 :: A6 :: A7 :: A8 :: A9 :: ctx) c) : Ent e (sepL [A0, A1, A2, A3, A4, A5, A6, A7, A8, A9] :: ctx) c := Ent.grp (l := [A0, A1, A2, A3, A4, A5, A6, A7, A8, A9]) h
theorem Imp.g10 {A0 A1 A2 A3 A4 A5 A6 A7 A8 A9 : HProp} {l r : List HProp} (h : Imp l (A0 :: A1 :: A2 :: A3 :: A4 :: A5 :: A6 :: A7 :: A8 :: A9 :: r)) : Imp l (sepL [A0, A1, A2, A3, A4, A5, A6, A7, A8, A9] :: r) := fun y k => (sepL_grp (l := [A0, A1, A2, A3, A4, A5, A6, A7, A8, A9])).2 (h y k)

/-! finding a part -/
/-- 'A' is among the parts -/
inductive Has : List HProp → HProp → Prop
  | hd {A : HProp} {l : List HProp} : Has (A :: l) A
  | tl {A B : HProp} {l : List HProp} : Has l A → Has (B :: l) A
/-- 'l' is 'A' and 'r' -/
inductive Pick : List HProp → HProp → List HProp → Prop
  | hd {A : HProp} {l : List HProp} : Pick (A :: l) A l
  | tl {A B : HProp} {l r : List HProp} : Pick l A r → Pick (B :: l) A (B :: r)
/-- 'l' with 'B' in the place of 'A' -/
inductive Upd : List HProp → HProp → HProp → List HProp → Prop
  | hd {A B : HProp} {l : List HProp} : Upd (A :: l) A B (B :: l)
  | tl {A B C : HProp} {l r : List HProp} : Upd l A B r → Upd (C :: l) A B (C :: r)
theorem Pick.perm {l : List HProp} {A : HProp} {r : List HProp} (h : Pick l A r) : l.Perm (A :: r) := by
  induction h with
  | hd => exact .refl _
  | tl _ ih => exact (ih.cons _).trans (.swap _ _ _)
theorem Has.pick {l : List HProp} {A : HProp} (h : Has l A) : ∃ r, Pick l A r := by
  induction h with
  | hd => exact ⟨_, .hd⟩
  | tl _ ih => obtain ⟨r, hr⟩ := ih; exact ⟨_, .tl hr⟩
theorem Upd.pick {l : List HProp} {A B : HProp} {r : List HProp} (h : Upd l A B r) : ∃ s, Pick l A s ∧ r.Perm (B :: s) := by
  induction h with
  | hd => exact ⟨_, .hd, .refl _⟩
  | tl _ ih => obtain ⟨s, h1, h2⟩ := ih; exact ⟨_, .tl h1, (h2.cons _).trans (.swap _ _ _)⟩
theorem Ent.pick {A : HProp} (hp : Pick ctx A ctx') (h : Ent e (A :: ctx') c) : Ent e ctx c := h.perm hp.perm
theorem Imp.pick {A : HProp} {l r : List HProp} {l' : List HProp} (hp : Pick l A r) (h : Imp r l') : Imp l (A :: l') := (Imp.perm hp.perm).trans h.cons
theorem Has.at_ {A : HProp} {w : World} (hh : Has ctx A) (hs : Sat e (sepL ctx) w) : ∃ h, Hp.le h (hpOf w) ∧ A h := by
  obtain ⟨r, hr⟩ := hh.pick
  obtain ⟨h1, _, _, l1, _, hA, _⟩ := sepL_perm hr.perm _ hs.heap
  exact ⟨h1, l1, hA⟩
theorem Has.pt {b : Nat} {l : List Value} {w : World} (hh : Has ctx (pt b l)) (hs : Sat e (sepL ctx) w) :
    ∃ T fr, w.heap[b]? = some (.cells l.toArray T fr) ∧ ∀ i, i < l.length → ¬ (fr.1 ≤ i ∧ i < fr.2) := by
  obtain ⟨h, hl, T, fr, hb, hf⟩ := hh.at_ hs
  exact ⟨T, fr, hl _ _ hb, hf⟩
theorem Has.ob {b : Nat} {o : Obj} {w : World} (hh : Has ctx (ob b o)) (hs : Sat e (sepL ctx) w) : w.heap[b]? = some o := by
  obtain ⟨h, hl, hb⟩ := hh.at_ hs
  exact hl _ _ hb

/-! what becomes of a world -/
theorem Sat.drawn {R : HProp} {w : World} (h : Sat e R w) (n : Nat) : Sat e R { w with drawn := n } := ⟨h.os, h.tape, h.output, h.heap⟩
theorem Sat.alloc {w : World} (h : Sat e (sepL ctx) w) (o : Obj) : Sat e (sepL (Sl.ob w.heap.size o :: ctx)) (w.alloc o) := by
  refine ⟨h.os, h.tape, h.output, fun i => if i = w.heap.size then some o else none, hpOf w, ?_, ?_, ?_, by simp [Sl.ob], h.heap⟩
  · intro i
    by_cases hi : i = w.heap.size
    · subst hi; exact .inr (by simp [hpOf])
    · exact .inl (by simp [hi])
  · intro i o' ho
    by_cases hi : i = w.heap.size
    · subst hi; simp only [if_true] at ho; cases ho; show (w.heap.push o)[w.heap.size]? = some o; simp
    · simp [hi] at ho
  · intro i o' ho
    have hlt : i < w.heap.size := (Array.getElem?_eq_some_iff.1 ho).1
    show (w.heap.push o)[i]? = some o'
    rw [Array.getElem?_push, if_neg (by omega)]; exact ho
theorem ob_pt {b : Nat} {l : List Value} {T : TypeId} (h : Hp) (k : Sl.ob b (.cells l.toArray T) h) : Sl.pt b l h := ⟨T, (0, 0), k, fun _ _ => by simp⟩
theorem Sat.new {w : World} (h : Sat e (sepL ctx) w) (l : List Value) (T : TypeId) : Sat e (sepL (Sl.pt w.heap.size l :: ctx)) (w.alloc (.cells l.toArray T)) :=
  (h.alloc _).imp fun _ k => sepL_cons ob_pt (fun _ x => x) k
theorem p0_pt {b : Nat} {l : List Value} (h : Hp) (k : Sl.p0 b l h) : Sl.pt b l h := by
  obtain ⟨T, k⟩ := k
  exact ob_pt h k
theorem Sat.new0 {w : World} (h : Sat e (sepL ctx) w) (l : List Value) (T : TypeId) : Sat e (sepL (Sl.p0 w.heap.size l :: ctx)) (w.alloc (.cells l.toArray T)) :=
  (h.alloc _).imp fun _ k => sepL_cons (fun _ k => ⟨T, k⟩) (fun _ x => x) k
/-- one block turns -/
theorem Sat.turn {A B : HProp} {w w' : World} {b : Nat} {o o' : Obj} (h : Sat e (sepL (A :: ctx)) w) (hA : ∀ h, A h → h b = some o) (hB : ∀ h, h b = some o' → B h)
    (h1 : w'.os = w.os) (h2 : w'.tape = w.tape) (h3 : w'.output = w.output) (hb : w'.heap[b]? = some o') (hr : ∀ i, i ≠ b → w'.heap[i]? = w.heap[i]?) : Sat e (sepL (B :: ctx)) w' := by
  obtain ⟨g1, g2, hd, l1, l2, a, r⟩ := h.heap
  have hg := hA _ a
  refine ⟨h1.trans h.os, h2.trans h.tape, h3.trans h.output, fun i => if i = b then some o' else none, g2, ?_, ?_, ?_, hB _ (by simp), r⟩
  · intro i
    by_cases hi : i = b
    · subst hi
      refine .inr ?_
      rcases hd i with x | x
      · rw [hg] at x; cases x
      · exact x
    · exact .inl (by simp [hi])
  · intro i x hx
    by_cases hi : i = b
    · subst hi; simp only [if_true] at hx; cases hx; exact hb
    · simp [hi] at hx
  · intro i x hx
    have hi : i ≠ b := by
      intro e; subst e
      rcases hd i with y | y
      · rw [hg] at y; cases y
      · rw [hx] at y; cases y
    show w'.heap[i]? = some x
    rw [hr i hi]; exact l2 i x hx
theorem Sat.setRow {b : Nat} {l l' : List Value} {w : World} (hl : l'.length = l.length) (h : Sat e (sepL (Sl.pt b l :: ctx)) w) : Sat e (sepL (Sl.pt b l' :: ctx)) (w.setRow b l'.toArray) := by
  obtain ⟨T, fr, hb, hf⟩ := Has.pt .hd h
  obtain ⟨g1, g2, hd, l1, l2, ⟨T', fr', hb', hf'⟩, r⟩ := h.heap
  have := l1 _ _ hb'
  have he : hpOf w b = w.heap[b]? := rfl
  rw [he, hb] at this
  cases this
  exact Sat.turn (A := fun h => h b = some (.cells l.toArray T fr)) (w := w) ⟨h.os, h.tape, h.output, g1, g2, hd, l1, l2, hb', r⟩ (fun _ k => k)
    (fun _ k => ⟨T, fr, k, fun i hi => hf i (hl ▸ hi)⟩) rfl rfl rfl (setRow_heap w b _ _ T fr hb) (fun i hi => setRow_other w b i _ hi)
end
end Go.Proofs.YtfofnagocedlgaaGreatDoor.Sl
end
section
/-
  THE SECOND LAYER's RULES: one for each operation.
-/
set_option maxRecDepth 100000
set_option linter.unusedVariables false
set_option linter.unusedSimpArgs false
namespace Go.Proofs.YtfofnagocedlgaaGreatDoor.Sl
open Go Sh

/-! ## the frame of a proof -/
section
variable {e : Env} {ctx ctx' : List HProp} {c : WP}
theorem Ent.condT {b : Bool} {x y : WP} (hb : b = true) (h : Ent e ctx x) : Ent e ctx (condK b x y) := by subst hb; exact h
theorem Ent.condF {b : Bool} {x y : WP} (hb : b = false) (h : Ent e ctx y) : Ent e ctx (condK b x y) := by subst hb; exact h
theorem Ent.cond {b : Bool} {x y : WP} (h : b = true → Ent e ctx x) (k : b = false → Ent e ctx y) : Ent e ctx (condK b x y) := by
  cases b
  · exact k rfl
  · exact h rfl
def inR (k : IntKind) (n : Int) : Prop := k.min ≤ n ∧ n ≤ k.max
theorem wrap_in {k : IntKind} {n : Int} (h : inR k n) : k.wrap n = n := by
  obtain ⟨h1, h2⟩ := h
  cases k <;> simp [IntKind.min, IntKind.max, IntKind.signed, IntKind.bits] at h1 h2 <;> simp [IntKind.wrap, IntKind.signed, IntKind.bits] <;> omega
theorem Ent.ar {k : IntKind} {n : Int} {f : Int → WP} (hn : inR k n) (h : Ent e ctx (f n)) : Ent e ctx (ArK k n f) := by
  unfold ArK; rw [wrap_in hn]; exact h
theorem Ent.arw {k : IntKind} {n : Int} {f : Int → WP} (h : Ent e ctx (f (k.wrap n))) : Ent e ctx (ArK k n f) := h
theorem Ent.nil {a : Addr} (h : Ent e ctx c) : Ent e ctx (NilK (.pointer (some a)) c) := fun w hw => ⟨rfl, h w hw⟩
theorem Ent.nilF {f : FuncId} {a b : Array Value} (h : Ent e ctx c) : Ent e ctx (NilK (.func (.func f) a b) c) := fun w hw => ⟨rfl, h w hw⟩
theorem Ent.join {ts : List (Nat × Kd)} {m : AS ts → WP} {k : AS ts} (h : Ent e ctx (m k)) : Ent e ctx (joinK ts m k) := h
theorem Ent.join0 {m : WP → WP} {k : WP} (J : List HProp) (hk : Ent e J k) (hm : ∀ k' : WP, Ent e J k' → Ent e ctx (m k')) : Ent e ctx (joinK [] m k) := hm k hk
theorem Ent.join1 {i : Nat} {kd : Kd} {m : (kd.T → WP) → WP} {k : kd.T → WP} (J : kd.T → List HProp) (hk : ∀ x, Ent e (J x) (k x))
    (hm : ∀ k' : kd.T → WP, (∀ x, Ent e (J x) (k' x)) → Ent e ctx (m k')) : Ent e ctx (joinK [(i, kd)] m k) := hm k hk
theorem Ent.join2 {i i2 : Nat} {kd kd2 : Kd} {m : (kd.T → kd2.T → WP) → WP} {k : kd.T → kd2.T → WP} (J : kd.T → kd2.T → List HProp) (hk : ∀ x y, Ent e (J x y) (k x y))
    (hm : ∀ k' : kd.T → kd2.T → WP, (∀ x y, Ent e (J x y) (k' x y)) → Ent e ctx (m k')) : Ent e ctx (joinK [(i, kd), (i2, kd2)] m k) := hm k hk
theorem Ent.join3 {i i2 i3 : Nat} {kd kd2 kd3 : Kd} {m : (kd.T → kd2.T → kd3.T → WP) → WP} {k : kd.T → kd2.T → kd3.T → WP} (J : kd.T → kd2.T → kd3.T → List HProp) (hk : ∀ x y z, Ent e (J x y z) (k x y z))
    (hm : ∀ k' : kd.T → kd2.T → kd3.T → WP, (∀ x y z, Ent e (J x y z) (k' x y z)) → Ent e ctx (m k')) : Ent e ctx (joinK [(i, kd), (i2, kd2), (i3, kd3)] m k) := hm k hk
theorem Ent.and {S : WP} (hS : ∀ w, Sat e (sepL ctx) w → S w) (h : Ent e ctx c) : Ent e ctx (andK S c) := fun w hw => ⟨hS w hw, h w hw⟩
theorem Ent.andI {R : List HProp} (hS : Imp ctx R) (h : Ent e ctx c) : Ent e ctx (andK (Sat e (sepL R)) c) := fun w hw => ⟨hw.imp hS, h w hw⟩
theorem Ent.draw {f : WP → WP} (R : List HProp) (hR : Imp ctx R) (h : Ent e ctx (f (Sat e (sepL R)))) : Ent e ctx (DrawK f) := fun w hw =>
  ⟨Sat e (sepL R), (hw.imp hR).drawn _, h _ (hw.drawn _)⟩
theorem Ent.draw0 {f : WP → WP} (h : Ent e ctx (f (Sat e (sepL ctx)))) : Ent e ctx (DrawK f) := Ent.draw ctx (Imp.refl _) h
/-- a loop: 'I n ..' holds where a round begins, n more rounds ahead at most -/
theorem Ent.loop0  {body : (WP) → WP} (I : Nat → List HProp) (n : Nat) (h0 : Imp ctx (I n))
    (hb : ∀ n (K : WP), (∀ m, m < n → Ent e (I m) (K)) → Ent e (I n) (body K)) :
    Ent e ctx (loopK [] (fun j => j) body) := fun _ hw =>
  ⟨fun n => Sat e (sepL (I n)), ⟨n, hw.imp h0⟩, fun n w h => hb n _ (fun m hm _ h => ⟨⟨m, hm⟩, h⟩) w h⟩
theorem Ent.loop1 {i0 : Nat} {k0 : Kd} {x0 : k0.T} {body : (k0.T → WP) → k0.T → WP} (I : Nat → k0.T → List HProp) (n : Nat) (h0 : Imp ctx (I n x0))
    (hb : ∀ n (K : k0.T → WP), (∀ m, m < n → ∀ y0, Ent e (I m y0) (K y0)) → ∀ y0, Ent e (I n y0) (body K y0)) :
    Ent e ctx (loopK [(i0, k0)] (fun j => j x0) body) := fun _ hw =>
  ⟨fun n y0 => Sat e (sepL (I n y0)), ⟨n, hw.imp h0⟩, fun n y0 w h => hb n _ (fun m hm y0 _ h => ⟨⟨m, hm⟩, h⟩) y0 w h⟩
theorem Ent.loop2 {i0 : Nat} {k0 : Kd} {x0 : k0.T} {i1 : Nat} {k1 : Kd} {x1 : k1.T} {body : (k0.T → k1.T → WP) → k0.T → k1.T → WP} (I : Nat → k0.T → k1.T → List HProp) (n : Nat) (h0 : Imp ctx (I n x0 x1))
    (hb : ∀ n (K : k0.T → k1.T → WP), (∀ m, m < n → ∀ y0 y1, Ent e (I m y0 y1) (K y0 y1)) → ∀ y0 y1, Ent e (I n y0 y1) (body K y0 y1)) :
    Ent e ctx (loopK [(i0, k0), (i1, k1)] (fun j => j x0 x1) body) := fun _ hw =>
  ⟨fun n y0 y1 => Sat e (sepL (I n y0 y1)), ⟨n, hw.imp h0⟩, fun n y0 y1 w h => hb n _ (fun m hm y0 y1 _ h => ⟨⟨m, hm⟩, h⟩) y0 y1 w h⟩
theorem Ent.loop3 {i0 : Nat} {k0 : Kd} {x0 : k0.T} {i1 : Nat} {k1 : Kd} {x1 : k1.T} {i2 : Nat} {k2 : Kd} {x2 : k2.T} {body : (k0.T → k1.T → k2.T → WP) → k0.T → k1.T → k2.T → WP} (I : Nat → k0.T → k1.T → k2.T → List HProp) (n : Nat) (h0 : Imp ctx (I n x0 x1 x2))
    (hb : ∀ n (K : k0.T → k1.T → k2.T → WP), (∀ m, m < n → ∀ y0 y1 y2, Ent e (I m y0 y1 y2) (K y0 y1 y2)) → ∀ y0 y1 y2, Ent e (I n y0 y1 y2) (body K y0 y1 y2)) :
    Ent e ctx (loopK [(i0, k0), (i1, k1), (i2, k2)] (fun j => j x0 x1 x2) body) := fun _ hw =>
  ⟨fun n y0 y1 y2 => Sat e (sepL (I n y0 y1 y2)), ⟨n, hw.imp h0⟩, fun n y0 y1 y2 w h => hb n _ (fun m hm y0 y1 y2 _ h => ⟨⟨m, hm⟩, h⟩) y0 y1 y2 w h⟩
theorem Ent.loop4 {i0 : Nat} {k0 : Kd} {x0 : k0.T} {i1 : Nat} {k1 : Kd} {x1 : k1.T} {i2 : Nat} {k2 : Kd} {x2 : k2.T} {i3 : Nat} {k3 : Kd} {x3 : k3.T} {body : (k0.T → k1.T → k2.T → k3.T → WP) → k0.T → k1.T → k2.T → k3.T → WP} (I : Nat → k0.T → k1.T → k2.T → k3.T → List HProp) (n : Nat) (h0 : Imp ctx (I n x0 x1 x2 x3))
    (hb : ∀ n (K : k0.T → k1.T → k2.T → k3.T → WP), (∀ m, m < n → ∀ y0 y1 y2 y3, Ent e (I m y0 y1 y2 y3) (K y0 y1 y2 y3)) → ∀ y0 y1 y2 y3, Ent e (I n y0 y1 y2 y3) (body K y0 y1 y2 y3)) :
    Ent e ctx (loopK [(i0, k0), (i1, k1), (i2, k2), (i3, k3)] (fun j => j x0 x1 x2 x3) body) := fun _ hw =>
  ⟨fun n y0 y1 y2 y3 => Sat e (sepL (I n y0 y1 y2 y3)), ⟨n, hw.imp h0⟩, fun n y0 y1 y2 y3 w h => hb n _ (fun m hm y0 y1 y2 y3 _ h => ⟨⟨m, hm⟩, h⟩) y0 y1 y2 y3 w h⟩
theorem Ent.loop5 {i0 : Nat} {k0 : Kd} {x0 : k0.T} {i1 : Nat} {k1 : Kd} {x1 : k1.T} {i2 : Nat} {k2 : Kd} {x2 : k2.T} {i3 : Nat} {k3 : Kd} {x3 : k3.T} {i4 : Nat} {k4 : Kd} {x4 : k4.T} {body : (k0.T → k1.T → k2.T → k3.T → k4.T → WP) → k0.T → k1.T → k2.T → k3.T → k4.T → WP} (I : Nat → k0.T → k1.T → k2.T → k3.T → k4.T → List HProp) (n : Nat) (h0 : Imp ctx (I n x0 x1 x2 x3 x4))
    (hb : ∀ n (K : k0.T → k1.T → k2.T → k3.T → k4.T → WP), (∀ m, m < n → ∀ y0 y1 y2 y3 y4, Ent e (I m y0 y1 y2 y3 y4) (K y0 y1 y2 y3 y4)) → ∀ y0 y1 y2 y3 y4, Ent e (I n y0 y1 y2 y3 y4) (body K y0 y1 y2 y3 y4)) :
    Ent e ctx (loopK [(i0, k0), (i1, k1), (i2, k2), (i3, k3), (i4, k4)] (fun j => j x0 x1 x2 x3 x4) body) := fun _ hw =>
  ⟨fun n y0 y1 y2 y3 y4 => Sat e (sepL (I n y0 y1 y2 y3 y4)), ⟨n, hw.imp h0⟩, fun n y0 y1 y2 y3 y4 w h => hb n _ (fun m hm y0 y1 y2 y3 y4 _ h => ⟨⟨m, hm⟩, h⟩) y0 y1 y2 y3 y4 w h⟩
theorem Ent.loop6 {i0 : Nat} {k0 : Kd} {x0 : k0.T} {i1 : Nat} {k1 : Kd} {x1 : k1.T} {i2 : Nat} {k2 : Kd} {x2 : k2.T} {i3 : Nat} {k3 : Kd} {x3 : k3.T} {i4 : Nat} {k4 : Kd} {x4 : k4.T} {i5 : Nat} {k5 : Kd} {x5 : k5.T} {body : (k0.T → k1.T → k2.T → k3.T → k4.T → k5.T → WP) → k0.T → k1.T → k2.T → k3.T → k4.T → k5.T → WP} (I : Nat → k0.T → k1.T → k2.T → k3.T → k4.T → k5.T → List HProp) (n : Nat) (h0 : Imp ctx (I n x0 x1 x2 x3 x4 x5))
    (hb : ∀ n (K : k0.T → k1.T → k2.T → k3.T → k4.T → k5.T → WP), (∀ m, m < n → ∀ y0 y1 y2 y3 y4 y5, Ent e (I m y0 y1 y2 y3 y4 y5) (K y0 y1 y2 y3 y4 y5)) → ∀ y0 y1 y2 y3 y4 y5, Ent e (I n y0 y1 y2 y3 y4 y5) (body K y0 y1 y2 y3 y4 y5)) :
    Ent e ctx (loopK [(i0, k0), (i1, k1), (i2, k2), (i3, k3), (i4, k4), (i5, k5)] (fun j => j x0 x1 x2 x3 x4 x5) body) := fun _ hw =>
  ⟨fun n y0 y1 y2 y3 y4 y5 => Sat e (sepL (I n y0 y1 y2 y3 y4 y5)), ⟨n, hw.imp h0⟩, fun n y0 y1 y2 y3 y4 y5 w h => hb n _ (fun m hm y0 y1 y2 y3 y4 y5 _ h => ⟨⟨m, hm⟩, h⟩) y0 y1 y2 y3 y4 y5 w h⟩
theorem Ent.loop7 {i0 : Nat} {k0 : Kd} {x0 : k0.T} {i1 : Nat} {k1 : Kd} {x1 : k1.T} {i2 : Nat} {k2 : Kd} {x2 : k2.T} {i3 : Nat} {k3 : Kd} {x3 : k3.T} {i4 : Nat} {k4 : Kd} {x4 : k4.T} {i5 : Nat} {k5 : Kd} {x5 : k5.T} {i6 : Nat} {k6 : Kd} {x6 : k6.T} {body : (k0.T → k1.T → k2.T → k3.T → k4.T → k5.T → k6.T → WP) → k0.T → k1.T → k2.T → k3.T → k4.T → k5.T → k6.T → WP} (I : Nat → k0.T → k1.T → k2.T → k3.T → k4.T → k5.T → k6.T → List HProp) (n : Nat) (h0 : Imp ctx (I n x0 x1 x2 x3 x4 x5 x6))
    (hb : ∀ n (K : k0.T → k1.T → k2.T → k3.T → k4.T → k5.T → k6.T → WP), (∀ m, m < n → ∀ y0 y1 y2 y3 y4 y5 y6, Ent e (I m y0 y1 y2 y3 y4 y5 y6) (K y0 y1 y2 y3 y4 y5 y6)) → ∀ y0 y1 y2 y3 y4 y5 y6, Ent e (I n y0 y1 y2 y3 y4 y5 y6) (body K y0 y1 y2 y3 y4 y5 y6)) :
    Ent e ctx (loopK [(i0, k0), (i1, k1), (i2, k2), (i3, k3), (i4, k4), (i5, k5), (i6, k6)] (fun j => j x0 x1 x2 x3 x4 x5 x6) body) := fun _ hw =>
  ⟨fun n y0 y1 y2 y3 y4 y5 y6 => Sat e (sepL (I n y0 y1 y2 y3 y4 y5 y6)), ⟨n, hw.imp h0⟩, fun n y0 y1 y2 y3 y4 y5 y6 w h => hb n _ (fun m hm y0 y1 y2 y3 y4 y5 y6 _ h => ⟨⟨m, hm⟩, h⟩) y0 y1 y2 y3 y4 y5 y6 w h⟩
theorem Ent.loop8 {i0 : Nat} {k0 : Kd} {x0 : k0.T} {i1 : Nat} {k1 : Kd} {x1 : k1.T} {i2 : Nat} {k2 : Kd} {x2 : k2.T} {i3 : Nat} {k3 : Kd} {x3 : k3.T} {i4 : Nat} {k4 : Kd} {x4 : k4.T} {i5 : Nat} {k5 : Kd} {x5 : k5.T} {i6 : Nat} {k6 : Kd} {x6 : k6.T} {i7 : Nat} {k7 : Kd} {x7 : k7.T} {body : (k0.T → k1.T → k2.T → k3.T → k4.T → k5.T → k6.T → k7.T → WP) → k0.T → k1.T → k2.T → k3.T → k4.T → k5.T → k6.T → k7.T → WP} (I : Nat → k0.T → k1.T → k2.T → k3.T → k4.T → k5.T → k6.T → k7.T → List HProp) (n : Nat) (h0 : Imp ctx (I n x0 x1 x2 x3 x4 x5 x6 x7))
    (hb : ∀ n (K : k0.T → k1.T → k2.T → k3.T → k4.T → k5.T → k6.T → k7.T → WP), (∀ m, m < n → ∀ y0 y1 y2 y3 y4 y5 y6 y7, Ent e (I m y0 y1 y2 y3 y4 y5 y6 y7) (K y0 y1 y2 y3 y4 y5 y6 y7)) → ∀ y0 y1 y2 y3 y4 y5 y6 y7, Ent e (I n y0 y1 y2 y3 y4 y5 y6 y7) (body K y0 y1 y2 y3 y4 y5 y6 y7)) :
    Ent e ctx (loopK [(i0, k0), (i1, k1), (i2, k2), (i3, k3), (i4, k4), (i5, k5), (i6, k6), (i7, k7)] (fun j => j x0 x1 x2 x3 x4 x5 x6 x7) body) := fun _ hw =>
  ⟨fun n y0 y1 y2 y3 y4 y5 y6 y7 => Sat e (sepL (I n y0 y1 y2 y3 y4 y5 y6 y7)), ⟨n, hw.imp h0⟩, fun n y0 y1 y2 y3 y4 y5 y6 y7 w h => hb n _ (fun m hm y0 y1 y2 y3 y4 y5 y6 y7 _ h => ⟨⟨m, hm⟩, h⟩) y0 y1 y2 y3 y4 y5 y6 y7 w h⟩
end
end Go.Proofs.YtfofnagocedlgaaGreatDoor.Sl
end
section
/-
  THE SECOND LAYER's RULES, operation by operation.
-/
set_option maxRecDepth 100000
set_option linter.unusedVariables false
set_option linter.unusedSimpArgs false
namespace Go.Proofs.YtfofnagocedlgaaGreatDoor.Sl
open Go Sh

/-- in every world that holds 'ctx' the operation leaves the world alone and gives 'v' -/
def Still (e : Env) (ctx : List HProp) (s : Sem Next) (v : Value) : Prop := ∀ w, Sat e (sepL ctx) w → s.run P w = .ok (.value v) w

section
variable {e : Env} {ctx ctx' R : List HProp}
theorem Ent.opR {s : Sem Next} {v : Value} {c : Value → WP} (hs : Still e ctx s v) (h : Ent e ctx (c v)) : Ent e ctx (OpK P (.one .raw) s c) := fun w hw => by
  show NextK P s _ w; unfold NextK; rw [hs w hw]; exact ⟨v, rfl, h w hw⟩
theorem Ent.opI {s : Sem Next} {k : IntKind} {n : Int} {c : Int → WP} (hs : Still e ctx s (.int k n)) (h : Ent e ctx (c n)) : Ent e ctx (OpK P (.one (.int k)) s c) := fun w hw => by
  show NextK P s _ w; unfold NextK; rw [hs w hw]; exact ⟨n, rfl, h w hw⟩
theorem Ent.opB {s : Sem Next} {b : Bool} {c : Bool → WP} (hs : Still e ctx s (.bool b)) (h : Ent e ctx (c b)) : Ent e ctx (OpK P (.one .bool) s c) := fun w hw => by
  show NextK P s _ w; unfold NextK; rw [hs w hw]; exact ⟨b, rfl, h w hw⟩
theorem Ent.opS {s : Sem Next} {b : ByteArray} {c : ByteArray → WP} (hs : Still e ctx s (.string b)) (h : Ent e ctx (c b)) : Ent e ctx (OpK P (.one .str) s c) := fun w hw => by
  show NextK P s _ w; unfold NextK; rw [hs w hw]; exact ⟨b, rfl, h w hw⟩
theorem Ent.stR {s : Sem Next} {v : Value} {c : Value → WP} (hs : Still e R s v) (h : Ent e ctx (c v)) : Ent e ctx (StK P (Sat e (sepL R)) (.one .raw) s c) := fun w hw =>
  ⟨v, hs, v, rfl, h w hw⟩
theorem Ent.stI {s : Sem Next} {k : IntKind} {n : Int} {c : Int → WP} (hs : Still e R s (.int k n)) (h : Ent e ctx (c n)) : Ent e ctx (StK P (Sat e (sepL R)) (.one (.int k)) s c) := fun w hw =>
  ⟨_, hs, n, rfl, h w hw⟩
theorem Ent.stB {s : Sem Next} {b : Bool} {c : Bool → WP} (hs : Still e R s (.bool b)) (h : Ent e ctx (c b)) : Ent e ctx (StK P (Sat e (sepL R)) (.one .bool) s c) := fun w hw =>
  ⟨_, hs, b, rfl, h w hw⟩
theorem Ent.stS {s : Sem Next} {b : ByteArray} {c : ByteArray → WP} (hs : Still e R s (.string b)) (h : Ent e ctx (c b)) : Ent e ctx (StK P (Sat e (sepL R)) (.one .str) s c) := fun w hw =>
  ⟨_, hs, b, rfl, h w hw⟩
/-- in every world the operation gives 'v' -/
def Pu (s : Sem Next) (v : Value) : Prop := ∀ w, s.run P w = .ok (.value v) w
theorem Pu.still {s : Sem Next} {v : Value} (h : Pu s v) : Still e ctx s v := fun w _ => h w
theorem Ent.puR {s : Sem Next} {v : Value} {c : Value → WP} (hs : Pu s v) (h : Ent e ctx (c v)) : Ent e ctx (PuK P (.one .raw) s c) := fun w hw => ⟨v, hs, v, rfl, h w hw⟩
theorem Ent.puI {s : Sem Next} {k : IntKind} {n : Int} {c : Int → WP} (hs : Pu s (.int k n)) (h : Ent e ctx (c n)) : Ent e ctx (PuK P (.one (.int k)) s c) := fun w hw => ⟨_, hs, n, rfl, h w hw⟩
theorem Ent.puB {s : Sem Next} {b : Bool} {c : Bool → WP} (hs : Pu s (.bool b)) (h : Ent e ctx (c b)) : Ent e ctx (PuK P (.one .bool) s c) := fun w hw => ⟨_, hs, b, rfl, h w hw⟩
theorem Ent.puS {s : Sem Next} {b : ByteArray} {c : ByteArray → WP} (hs : Pu s (.string b)) (h : Ent e ctx (c b)) : Ent e ctx (PuK P (.one .str) s c) := fun w hw => ⟨_, hs, b, rfl, h w hw⟩
/-- an operation that turns the world -/
theorem Ent.act {r : RK} {s : Sem Next} {c : r.A} (h : ∀ w, Sat e (sepL ctx) w → ∃ v w', (s.run P w = .ok (.value v) w' ∨ s.run P w = .ok .skip w' ∧ v = undef) ∧ tyR r c v w') : Ent e ctx (OpK P r s c) := fun w hw => by
  obtain ⟨v, w', hr, hc⟩ := h w hw
  show NextK P s _ w
  unfold NextK
  rcases hr with hr | ⟨hr, rfl⟩ <;> rw [hr] <;> exact hc

theorem run_vS {s : Sem Value} {v : Value} {w w' : World} (h : s.run P w = .ok v w') : (vS s).run P w = .ok (.value v) w' := by simp [vS, h]
theorem run_uS {s : Sem Unit} {w w' : World} (h : s.run P w = .ok () w') : (uS s).run P w = .ok .skip w' := by simp [uS, h]
theorem Still.of_run {s : Sem Value} {v : Value} (h : ∀ w, s.run P w = .ok v w) : Pu (vS s) v := fun w => run_vS (h w)

/-! types -/
theorem ti_spec {t : TypeId} {x : TI} (h : ti t = some x) : ∃ i d, P.info? t = some i ∧ P.underlying t = some d ∧ i.size = x.size ∧ i.bytes = x.bytes ∧ dOf d = x.d := tiOf_spec (lookTI_ok tab_ok h)
theorem zro_spec {t : TypeId} {z : List Value} (h : zro t = some z) : ∃ i v, P.info? t = some i ∧ i.zero = some v ∧ v.cells.toList = z := by
  have := lookTI_ok ztab_ok h
  unfold zeroOf at this
  cases hi : P.info? t with
  | none => simp [hi] at this
  | some i =>
    simp only [hi, Option.bind_some, Option.map_eq_some_iff] at this
    obtain ⟨v, hv, hz⟩ := this
    exact ⟨i, v, rfl, hv, hz⟩
theorem run_sizeOf' {t : TypeId} {i : TypeInfo} (h : P.info? t = some i) (w : World) : (sizeOf t).run P w = .ok i.size w := by simp [sizeOf, typeInfo, h]
theorem run_zero {t : TypeId} {i : TypeInfo} {v : Value} (h : P.info? t = some i) (hz : i.zero = some v) (w : World) : (zeroValue t).run P w = .ok v w := by simp [zeroValue, typeInfo, h, hz]
/-- a type of one cell -/
def sc (t : TypeId) : Bool := match ti t with
  | some ⟨1, _, .struct _⟩ => false
  | some ⟨1, _, .arr _ _⟩ => false
  | some ⟨1, _, _⟩ => true
  | _ => false
/-- a type of several cells: how many -/
def ag (t : TypeId) : Option Nat := match ti t with
  | some ⟨n, _, .struct _⟩ => some n
  | some ⟨n, _, .arr _ _⟩ => some n
  | _ => none
theorem sc_spec {t : TypeId} (h : sc t = true) : ∃ i d, P.info? t = some i ∧ P.underlying t = some d ∧ i.size = 1 ∧ ∀ w, (isAgg t).run P w = .ok false w := by
  unfold sc at h
  cases hx : ti t with
  | none => simp [hx] at h
  | some x =>
    obtain ⟨i, d, h1, h2, h3, h4, h5⟩ := ti_spec hx
    obtain ⟨n, b, dd⟩ := x
    simp only [hx] at h
    refine ⟨i, d, h1, h2, ?_, fun w => ?_⟩
    · split at h <;> simp_all
    · simp only at h5
      simp only [isAgg, Sem.run_bind, run_underlying h2, Result.andThen_ok]
      cases d <;> first | rfl | (exfalso; simp only [dOf] at h5; subst h5; split at h <;> first | (cases h; done) | (rename_i heq; simp only [Option.some.injEq, TI.mk.injEq] at heq; obtain ⟨_, _, rfl⟩ := heq; simp_all) | simp_all)
theorem ag_spec {t : TypeId} {n : Nat} (h : ag t = some n) : ∃ i d, P.info? t = some i ∧ P.underlying t = some d ∧ i.size = n ∧ ∀ w, (isAgg t).run P w = .ok true w := by
  unfold ag at h
  cases hx : ti t with
  | none => simp [hx] at h
  | some x =>
    obtain ⟨i, d, h1, h2, h3, h4, h5⟩ := ti_spec hx
    obtain ⟨m, b, dd⟩ := x
    simp only [hx] at h
    refine ⟨i, d, h1, h2, ?_, fun w => ?_⟩
    · split at h <;> simp_all
    · simp only at h5
      simp only [isAgg, Sem.run_bind, run_underlying h2, Result.andThen_ok]
      cases d <;> simp only [dOf] at h5 <;> first | rfl | (subst h5; simp at h)
/-- a field's place in a struct -/
def fld (t f : Nat) : Option Nat := match ti t with
  | some ⟨_, _, .struct fs⟩ => match fs[f]? with
    | some (off, ft) => match ti ft with
      | some ⟨n + 1, _, _⟩ => some off
      | _ => none
    | none => none
  | _ => none
theorem run_field {t f off : Nat} (h : fld t f = some off) (b o : Nat) (w : World) : (Instr.fieldAt t (.pointer (some ⟨b, o, none⟩)) f).run P w = .ok (.pointer (some ⟨b, o + off, none⟩)) w := by
  unfold fld at h
  split at h
  · rename_i sz by_ fs hx
    obtain ⟨i, d, h1, h2, h3, h4, h5⟩ := ti_spec hx
    simp only at h5
    cases d <;> simp only [dOf] at h5 <;> try (cases h5)
    rename_i fields
    cases hf : fields[f]? with
    | none => simp [hf] at h
    | some fd =>
      have e : (fields.toList.map fun f => (f.offset, f.type))[f]? = some (fd.offset, fd.type) := by simp [hf]
      rw [e] at h
      simp only at h
      split at h
      · rename_i n b' d' hft
        cases h
        obtain ⟨i', d', h1', _, h3', _, _⟩ := ti_spec hft
        have hs : i'.size ≠ 0 := by rw [h3']; simp
        simp [Instr.fieldAt, run_underlying h2, hf, Instr.sureAddr, fieldPlace, run_sizeOf' h1', hs, Addr.add_lit]
      · cases h
  · cases h
theorem st_field {t f off b o : Nat} (h : fld t f = some off) : Pu (vS (Instr.fieldAt t (.pointer (some ⟨b, o, none⟩)) f)) (.pointer (some ⟨b, o + off, none⟩)) := Still.of_run (run_field h b o)

/-! reading and writing cells -/
theorem cell_pt {b off : Nat} {l : List Value} {v : Value} {w : World} (hh : Has ctx (pt b l)) (hv : l[off]? = some v) (hw : Sat e (sepL ctx) w) : w.cell? ⟨b, off, none⟩ = some v := by
  obtain ⟨T, fr, hb, hf⟩ := hh.pt hw
  simp [World.cell?, hb, hv]
theorem st_load {t b off : Nat} {l : List Value} {v : Value} (hh : Has ctx (pt b l)) (ht : sc t = true) (hv : l[off]? = some v) : Still e ctx (vS (Instr.loadAt t (.pointer (some ⟨b, off, none⟩)))) v := fun w hw => by
  obtain ⟨i, d, h1, h2, h3, h4⟩ := sc_spec ht
  refine run_vS ?_
  simp [Instr.loadAt, Instr.sureAddr, loadVar, h4, cell_pt hh hv hw]
theorem run_loadCells_at {b off : Nat} {w : World} {cs : List Value} (h : ∀ j v, cs[j]? = some v → w.cell? ⟨b, off + j, none⟩ = some v) : (loadCells ⟨b, off, none⟩ cs.length).run P w = .ok cs.toArray w :=
  run_loadCells_list (P := P) w ⟨b, off, none⟩ cs (fun j v hv => by rw [Addr.add_lit]; exact h j v hv)
theorem st_loadA {t b off n : Nat} {l : List Value} {cs : List Value} (hh : Has ctx (pt b l)) (ht : ag t = some n) (hv : (l.drop off).take n = cs) (hn : cs.length = n) :
    Still e ctx (vS (Instr.loadAt t (.pointer (some ⟨b, off, none⟩)))) (.agg cs.toArray) := fun w hw => by
  obtain ⟨i, d, h1, h2, h3, h4⟩ := ag_spec ht
  refine run_vS ?_
  have hl : (loadCells ⟨b, off, none⟩ cs.length).run P w = .ok cs.toArray w := run_loadCells_at fun j v hj => by
    refine cell_pt hh ?_ hw
    rw [← hv, List.getElem?_take] at hj
    split at hj
    · rwa [List.getElem?_drop] at hj
    · cases hj
  rw [hn] at hl
  simp [Instr.loadAt, Instr.sureAddr, loadVar, h4, run_sizeOf' h1, h3, hl]
theorem run_storeCells_pt {b off : Nat} : ∀ (vs : List Value) (i : Nat) (l : List Value) (ctx : List HProp) (w : World), off + i + vs.length ≤ l.length → (∀ v ∈ vs, v.oneCell' = true) → Sat e (sepL (pt b l :: ctx)) w →
    ∃ w', (storeCells ⟨b, off, none⟩ vs i).run P w = .ok () w' ∧ Sat e (sepL (pt b (l.take (off + i) ++ vs ++ l.drop (off + i + vs.length)) :: ctx)) w'
  | [], i, l, ctx, w, hl, _, hw => ⟨w, rfl, by simpa using hw⟩
  | v :: vs, i, l, ctx, w, hl, h1, hw => by
    simp only [List.length_cons] at hl
    obtain ⟨T, fr, hb, hf⟩ := Has.pt .hd hw
    have hlt : off + i < l.length := by omega
    have hc : w.cell? ⟨b, off + i, none⟩ = some l[off + i] := by simp [World.cell?, hb, hlt]
    have hz : w.frozen? ⟨b, off + i, none⟩ = false := by
      have := hf _ hlt
      simp only [World.frozen?, hb]
      simp only [Bool.and_eq_false_iff, decide_eq_false_iff_not]
      by_cases h : fr.1 ≤ off + i
      · exact .inr fun k => this ⟨h, k⟩
      · exact .inl h
    have hst : (store (Addr.add ⟨b, off, none⟩ i) v).run P w = .ok () (w.setCell ⟨b, off + i, none⟩ v) := by
      rw [run_store P w _ v .plain (h1 v (by simp)), Addr.add_lit, hc, hz]; rfl
    have hrow : w.setCell ⟨b, off + i, none⟩ v = w.setRow b (l.set (off + i) v).toArray := by
      rw [setCell_eq_setRow w b (off + i) l.toArray T fr v hb]
      congr 1
      simp [hlt]
    have hw2 : Sat e (sepL (pt b (l.set (off + i) v) :: ctx)) (w.setRow b (l.set (off + i) v).toArray) := Sat.setRow (by simp) hw
    obtain ⟨w', hr, hs⟩ := run_storeCells_pt (off := off) vs (i + 1) (l.set (off + i) v) ctx _ (by simp; omega) (fun u hu => h1 u (by simp [hu])) hw2
    refine ⟨w', ?_, ?_⟩
    · simp only [storeCells, Sem.run_bind, hst, Result.andThen_ok, hrow]
      exact hr
    · have el : (l.set (off + i) v).take (off + (i + 1)) ++ vs ++ (l.set (off + i) v).drop (off + (i + 1) + vs.length) = l.take (off + i) ++ (v :: vs) ++ l.drop (off + i + (vs.length + 1)) := by
        have e1 : (l.set (off + i) v).take (off + (i + 1)) = l.take (off + i) ++ [v] := by
          rw [show off + (i + 1) = (off + i) + 1 by omega, List.take_succ_eq_append_getElem (by simpa using hlt)]
          simp
          exact List.take_set_of_le (Nat.le_refl _)
        have e2 : (l.set (off + i) v).drop (off + (i + 1) + vs.length) = l.drop (off + i + (vs.length + 1)) := by
          rw [List.drop_set_of_lt (by omega)]
          congr 1; omega
        rw [e1, e2]; simp
      rw [el] at hs
      simpa using hs
/-- a value of one cell -/
def one (v : Value) : Bool := v.oneCell'
theorem one_cells {v : Value} (h : one v = true) : v.cells = #[v] := by cases v <;> simp_all [one, Value.oneCell', Value.cells]
theorem Ent.store {t b off : Nat} {l : List Value} {v : Value} {c : Value → WP} (hu : Upd ctx (pt b l) (pt b (l.set off v)) ctx') (ht : sc t = true) (hv : one v = true) (ho : off < l.length)
    (h : Ent e ctx' (c undef)) : Ent e ctx (OpK P (.one .raw) (uS (Instr.storeAt t (.pointer (some ⟨b, off, none⟩)) v)) c) := Ent.act fun w hw => by
  obtain ⟨s, hp, hq⟩ := hu.pick
  obtain ⟨i, d, h1, h2, h3, h4⟩ := sc_spec ht
  obtain ⟨w', hr, hs⟩ := run_storeCells_pt (b := b) (off := off) [v] 0 l s w (by simp; omega) (by simpa [one] using hv) (hw.imp (sepL_perm hp.perm))
  refine ⟨undef, w', .inr ⟨run_uS ?_, rfl⟩, undef, rfl, h w' (hs.imp ?_)⟩
  · have hc := one_cells hv
    simp [Instr.storeAt, Instr.sureAddr, storeVar, run_sizeOf' h1, h3, hc, hr]
  · intro x k
    refine sepL_perm hq.symm x ?_
    have : l.set off v = l.take (off + 0) ++ [v] ++ l.drop (off + 0 + [v].length) := by
      simp [List.set_eq_take_append_cons_drop, ho]
    rw [this]; exact k
theorem Ent.storeA {t b off n : Nat} {l : List Value} {vs : List Value} {c : Value → WP} (hu : Upd ctx (pt b l) (pt b (l.take off ++ vs ++ l.drop (off + vs.length))) ctx') (ht : ag t = some n) (hv : vs.all one = true) (hn : vs.length = n)
    (ho : off + n ≤ l.length) (h : Ent e ctx' (c undef)) : Ent e ctx (OpK P (.one .raw) (uS (Instr.storeAt t (.pointer (some ⟨b, off, none⟩)) (.agg vs.toArray))) c) := Ent.act fun w hw => by
  obtain ⟨s, hp, hq⟩ := hu.pick
  obtain ⟨i, d, h1, h2, h3, h4⟩ := ag_spec ht
  obtain ⟨w', hr, hs⟩ := run_storeCells_pt (b := b) (off := off) vs 0 l s w (by omega) (fun v hm => List.all_eq_true.1 hv v hm) (hw.imp (sepL_perm hp.perm))
  refine ⟨undef, w', .inr ⟨run_uS ?_, rfl⟩, undef, rfl, h w' (hs.imp ?_)⟩
  · simp [Instr.storeAt, Instr.sureAddr, storeVar, run_sizeOf' h1, h3, Value.cells, hn, hr]
  · intro x k; exact sepL_perm hq.symm x k
/-! new blocks -/
theorem Ent.box {t : Nat} {v : Value} {l : List Value} {c : Value → WP} (hl : v.cells.toList = l) (h : ∀ b, Ent e (pt b l :: ctx) (c (.pointer (some ⟨b, 0, none⟩)))) : Ent e ctx (OpK P (.one .raw) (vS (Instr.box t v)) c) := Ent.act fun w hw => by
  subst hl
  refine ⟨.pointer (some ⟨w.heap.size, 0, none⟩), w.alloc (.cells v.cells t), .inl (run_vS ?_), _, rfl, h w.heap.size _ ?_⟩
  · rfl
  · have := hw.new v.cells.toList t
    simpa using this
theorem Ent.alloc {t : Nat} {l : List Value} {c : Value → WP} (hl : zro t = some l) (h : ∀ b, Ent e (pt b l :: ctx) (c (.pointer (some ⟨b, 0, none⟩)))) : Ent e ctx (OpK P (.one .raw) (vS (Instr.alloc t true (.tuple #[]))) c) := Ent.act fun w hw => by
  obtain ⟨i, v, h1, h2, rfl⟩ := zro_spec hl
  refine ⟨.pointer (some ⟨w.heap.size, 0, none⟩), w.alloc (.cells v.cells t), .inl (run_vS ?_), _, rfl, h w.heap.size _ ?_⟩
  · simp only [Instr.alloc, Sem.run_bind, run_zero h1 h2, Result.andThen_ok]
    rfl
  · have := hw.new v.cells.toList t
    simpa using this
/-! ## reckoning -/
theorem guard_ptr (op : BinOp) (t : TypeId) (x y : Operand) (a b : Option Addr) (w : World) : (eqGuard op t x y (.pointer a) (.pointer b)).run P w = .ok () w := by
  unfold eqGuard; split <;> rfl
theorem guard_slice (op : BinOp) (t : TypeId) (x y : Operand) (a b : Option Addr) (n m c d : Nat) (w : World) : (eqGuard op t x y (.slice a n c) (.slice b m d)).run P w = .ok () w := by
  unfold eqGuard; split <;> rfl
theorem guard_int (op : BinOp) (t : TypeId) (x y : Operand) (k k' : IntKind) (a b : Int) (w : World) : (eqGuard op t x y (.int k a) (.int k' b)).run P w = .ok () w := by
  unfold eqGuard; split <;> rfl
theorem guard_str (op : BinOp) (t : TypeId) (x y : Operand) (a b : ByteArray) (w : World) : (eqGuard op t x y (.string a) (.string b)).run P w = .ok () w := by
  unfold eqGuard; split <;> rfl
theorem guard_bool (op : BinOp) (t : TypeId) (x y : Operand) (a b : Bool) (w : World) : (eqGuard op t x y (.bool a) (.bool b)).run P w = .ok () w := by
  unfold eqGuard; split <;> rfl
theorem guard_map (op : BinOp) (t : TypeId) (x y : Operand) (a b : Option Nat) (w : World) : (eqGuard op t x y (.map a) (.map b)).run P w = .ok () w := by
  unfold eqGuard; split <;> rfl
theorem guard_flt (op : BinOp) (t : TypeId) (x y : Operand) (k k' : FloatKind) (a b : Nat) (w : World) : (eqGuard op t x y (.float k a) (.float k' b)).run P w = .ok () w := by
  unfold eqGuard; split <;> rfl
theorem guard_cpl (op : BinOp) (t : TypeId) (x y : Operand) (k k' : FloatKind) (a b c d : Nat) (w : World) : (eqGuard op t x y (.complex k a b) (.complex k' c d)).run P w = .ok () w := by
  unfold eqGuard; split <;> rfl
theorem still_bS {op : BinOp} {t : TypeId} {x y : Operand} {a b v : Value} (hg : ∀ w, (eqGuard op t x y a b).run P w = .ok () w) (h : ∀ w, (binOp op t a b).run P w = .ok v w) : Pu (bS op t x y a b) v :=
  Still.of_run fun w => by simp [hg, h]
/-- what a type is -/
def dd (t : TypeId) : Option D := (ti t).map (·.d)
theorem dd_ptr {t x : TypeId} (h : dd t = some (.ptr x)) : P.underlying t = some (.pointer x) := by
  unfold dd at h; cases hx : ti t with
  | none => simp [hx] at h
  | some y =>
    simp only [hx, Option.map_some, Option.some.injEq] at h
    obtain ⟨i, d, _, h2, _, _, h5⟩ := ti_spec hx
    rw [h] at h5; cases d <;> simp only [dOf] at h5 <;> cases h5; exact h2
theorem dd_sl {t x : TypeId} (h : dd t = some (.sl x)) : P.underlying t = some (.slice x) := by
  unfold dd at h; cases hx : ti t with
  | none => simp [hx] at h
  | some y =>
    simp only [hx, Option.map_some, Option.some.injEq] at h
    obtain ⟨i, d, _, h2, _, _, h5⟩ := ti_spec hx
    rw [h] at h5; cases d <;> simp only [dOf] at h5 <;> cases h5; exact h2
theorem dd_arr {t n x : Nat} (h : dd t = some (.arr n x)) : P.underlying t = some (.array n x) := by
  unfold dd at h; cases hx : ti t with
  | none => simp [hx] at h
  | some y =>
    simp only [hx, Option.map_some, Option.some.injEq] at h
    obtain ⟨i, d, _, h2, _, _, h5⟩ := ti_spec hx
    rw [h] at h5; cases d <;> simp only [dOf] at h5 <;> cases h5; exact h2
theorem dd_mp {t k x : TypeId} (h : dd t = some (.mp k x)) : P.underlying t = some (.map k x) := by
  unfold dd at h; cases hx : ti t with
  | none => simp [hx] at h
  | some y =>
    simp only [hx, Option.map_some, Option.some.injEq] at h
    obtain ⟨i, d, _, h2, _, _, h5⟩ := ti_spec hx
    rw [h] at h5; cases d <;> simp only [dOf] at h5 <;> cases h5; exact h2
theorem dd_int {t : TypeId} {k : IntKind} (h : dd t = some (.int k)) : P.underlying t = some (.int k) := by
  unfold dd at h; cases hx : ti t with
  | none => simp [hx] at h
  | some y =>
    simp only [hx, Option.map_some, Option.some.injEq] at h
    obtain ⟨i, d, _, h2, _, _, h5⟩ := ti_spec hx
    rw [h] at h5; cases d <;> simp only [dOf] at h5 <;> cases h5; exact h2
theorem dd_str {t : TypeId} (h : dd t = some .str) : P.underlying t = some .string := by
  unfold dd at h; cases hx : ti t with
  | none => simp [hx] at h
  | some y =>
    simp only [hx, Option.map_some, Option.some.injEq] at h
    obtain ⟨i, d, _, h2, _, _, h5⟩ := ti_spec hx
    rw [h] at h5; cases d <;> simp only [dOf] at h5 <;> cases h5; exact h2
theorem dd_bool {t : TypeId} (h : dd t = some .bool) : P.underlying t = some .bool := by
  unfold dd at h; cases hx : ti t with
  | none => simp [hx] at h
  | some y =>
    simp only [hx, Option.map_some, Option.some.injEq] at h
    obtain ⟨i, d, _, h2, _, _, h5⟩ := ti_spec hx
    rw [h] at h5; cases d <;> simp only [dOf] at h5 <;> cases h5; exact h2
theorem dd_flt {t : TypeId} {k : FloatKind} (h : dd t = some (.flt k)) : P.underlying t = some (.float k) := by
  unfold dd at h; cases hx : ti t with
  | none => simp [hx] at h
  | some y =>
    simp only [hx, Option.map_some, Option.some.injEq] at h
    obtain ⟨i, d, _, h2, _, _, h5⟩ := ti_spec hx
    rw [h] at h5; cases d <;> simp only [dOf] at h5 <;> cases h5; exact h2
/-- cells and bytes of a type -/
def szof (t : TypeId) : Option (Nat × Nat) := (ti t).map fun x => (x.size, x.bytes)
theorem szof_spec {t n b : Nat} (h : szof t = some (n, b)) : ∃ i, P.info? t = some i ∧ i.size = n ∧ i.bytes = b := by
  unfold szof at h; cases hx : ti t with
  | none => simp [hx] at h
  | some y =>
    simp only [hx, Option.map_some, Option.some.injEq, Prod.mk.injEq] at h
    obtain ⟨i, d, h1, _, h3, h4, _⟩ := ti_spec hx
    exact ⟨i, h1, h3.trans h.1, h4.trans h.2⟩

/-! pointers against nil -/
theorem equal_deep (t : TypeId) (x y : Value) : ∃ d, Op.equal t x y = Op.equalIn (d + 1) t x y := ⟨9999, rfl⟩
theorem run_eql_ptr {t x : TypeId} (ht : dd t = some (.ptr x)) (a b : Option Addr) (hn : a = none ∨ b = none) (w : World) : (Op.equal t (.pointer a) (.pointer b)).run P w = .ok (a.isNone && b.isNone) w := by
  obtain ⟨dp, hdp⟩ := equal_deep t (.pointer a) (.pointer b)
  rw [hdp]
  simp only [Op.equalIn, Sem.run_bind, run_underlying (dd_ptr ht), Result.andThen_ok]
  rcases hn with rfl | rfl
  · simp
  · cases a <;> simp
theorem st_nilP {t x : TypeId} {X Y : Operand} {a b : Option Addr} (ht : dd t = some (.ptr x)) (hn : a = none ∨ b = none) : Pu (bS .eql t X Y (.pointer a) (.pointer b)) (.bool (a.isNone && b.isNone)) :=
  still_bS (guard_ptr _ _ _ _ _ _) fun w => by simp [binOp, run_eql_ptr ht a b hn]
theorem st_nnilP {t x : TypeId} {X Y : Operand} {a b : Option Addr} (ht : dd t = some (.ptr x)) (hn : a = none ∨ b = none) : Pu (bS .neq t X Y (.pointer a) (.pointer b)) (.bool (!(a.isNone && b.isNone))) :=
  still_bS (guard_ptr _ _ _ _ _ _) fun w => by simp [binOp, run_eql_ptr ht a b hn]
theorem run_eql_sl {t x : TypeId} (ht : dd t = some (.sl x)) (a b : Option Addr) (n m c d : Nat) (hn : a = none ∨ b = none) (w : World) : (Op.equal t (.slice a n c) (.slice b m d)).run P w = .ok (a.isNone && b.isNone) w := by
  obtain ⟨dp, hdp⟩ := equal_deep t (.slice a n c) (.slice b m d)
  rw [hdp]
  simp only [Op.equalIn, Sem.run_bind, run_underlying (dd_sl ht), Result.andThen_ok]
  rcases hn with rfl | rfl
  · simp
  · cases a <;> simp
theorem st_nilS {t x : TypeId} {X Y : Operand} {a b : Option Addr} {n m c d : Nat} (ht : dd t = some (.sl x)) (hn : a = none ∨ b = none) : Pu (bS .eql t X Y (.slice a n c) (.slice b m d)) (.bool (a.isNone && b.isNone)) :=
  still_bS (guard_slice _ _ _ _ _ _ _ _ _ _) fun w => by simp [binOp, run_eql_sl ht a b n m c d hn]
theorem st_nnilS {t x : TypeId} {X Y : Operand} {a b : Option Addr} {n m c d : Nat} (ht : dd t = some (.sl x)) (hn : a = none ∨ b = none) : Pu (bS .neq t X Y (.slice a n c) (.slice b m d)) (.bool (!(a.isNone && b.isNone))) :=
  still_bS (guard_slice _ _ _ _ _ _ _ _ _ _) fun w => by simp [binOp, run_eql_sl ht a b n m c d hn]
theorem run_eql_mp {t k x : TypeId} (ht : dd t = some (.mp k x)) (a b : Option Nat) (hn : a = none ∨ b = none) (w : World) : (Op.equal t (.map a) (.map b)).run P w = .ok (a.isNone && b.isNone) w := by
  obtain ⟨dp, hdp⟩ := equal_deep t (.map a) (.map b)
  rw [hdp]
  simp only [Op.equalIn, Sem.run_bind, run_underlying (dd_mp ht), Result.andThen_ok]
  rcases hn with rfl | rfl
  · simp
  · cases a <;> simp
theorem st_nilM {t k x : TypeId} {X Y : Operand} {a b : Option Nat} (ht : dd t = some (.mp k x)) (hn : a = none ∨ b = none) : Pu (bS .eql t X Y (.map a) (.map b)) (.bool (a.isNone && b.isNone)) :=
  still_bS (guard_map _ _ _ _ _ _) fun w => by simp [binOp, run_eql_mp ht a b hn]
theorem st_nnilM {t k x : TypeId} {X Y : Operand} {a b : Option Nat} (ht : dd t = some (.mp k x)) (hn : a = none ∨ b = none) : Pu (bS .neq t X Y (.map a) (.map b)) (.bool (!(a.isNone && b.isNone))) :=
  still_bS (guard_map _ _ _ _ _ _) fun w => by simp [binOp, run_eql_mp ht a b hn]
theorem run_eql_bool {t : TypeId} (ht : dd t = some .bool) (a b : Bool) (w : World) : (Op.equal t (.bool a) (.bool b)).run P w = .ok (a == b) w := by
  obtain ⟨dp, hdp⟩ := equal_deep t (.bool a) (.bool b)
  rw [hdp]
  simp [Op.equalIn, run_underlying (dd_bool ht)]
theorem st_eqB {t : TypeId} {X Y : Operand} {a b : Bool} (ht : dd t = some .bool) : Pu (bS .eql t X Y (.bool a) (.bool b)) (.bool (a == b)) :=
  still_bS (guard_bool _ _ _ _ _ _) fun w => by simp [binOp, run_eql_bool ht]
theorem st_neB {t : TypeId} {X Y : Operand} {a b : Bool} (ht : dd t = some .bool) : Pu (bS .neq t X Y (.bool a) (.bool b)) (.bool (a != b)) :=
  still_bS (guard_bool _ _ _ _ _ _) fun w => by simp [binOp, run_eql_bool ht, bne]

/-! numbers -/
theorem st_rem {t : TypeId} {X Y : Operand} {k : IntKind} {a b : Int} (hb : b ≠ 0) : Pu (bS .rem t X Y (.int k a) (.int k b)) (.int k (a.tmod b)) :=
  still_bS (guard_int _ _ _ _ _ _ _ _) fun w => by simp [binOp, Op.intDiv, hb]
theorem st_quo {t : TypeId} {X Y : Operand} {k : IntKind} {a b : Int} (hb : b ≠ 0) (hr : inR k (a.tdiv b)) : Pu (bS .quo t X Y (.int k a) (.int k b)) (.int k (a.tdiv b)) :=
  still_bS (guard_int _ _ _ _ _ _ _ _) fun w => by simp [binOp, Op.intDiv, hb, wrap_in hr]
theorem st_xor {t : TypeId} {X Y : Operand} {k : IntKind} {a b : Int} : Pu (bS .xor t X Y (.int k a) (.int k b)) (.int k (k.wrap (BitVec.ofInt k.bits a ^^^ BitVec.ofInt k.bits b).toNat)) :=
  still_bS (guard_int _ _ _ _ _ _ _ _) fun w => by simp [binOp, Op.intBits]
theorem st_and {t : TypeId} {X Y : Operand} {k : IntKind} {a b : Int} : Pu (bS .and t X Y (.int k a) (.int k b)) (.int k (k.wrap (BitVec.ofInt k.bits a &&& BitVec.ofInt k.bits b).toNat)) :=
  still_bS (guard_int _ _ _ _ _ _ _ _) fun w => by simp [binOp, Op.intBits]
theorem st_or {t : TypeId} {X Y : Operand} {k : IntKind} {a b : Int} : Pu (bS .or t X Y (.int k a) (.int k b)) (.int k (k.wrap (BitVec.ofInt k.bits a ||| BitVec.ofInt k.bits b).toNat)) :=
  still_bS (guard_int _ _ _ _ _ _ _ _) fun w => by simp [binOp, Op.intBits]
theorem run_conv {s d : TypeId} {k k' : IntKind} (hs : dd s = some (.int k)) (hd : dd d = some (.int k')) (n : Int) (w : World) : (convert s d (.int k n)).run P w = .ok (.int k' (k'.wrap n)) w := by
  simp [convert, run_underlying (dd_int hs), run_underlying (dd_int hd), Conv.intToInt]
theorem st_conv {s d : TypeId} {k k' : IntKind} {n : Int} (hs : dd s = some (.int k)) (hd : dd d = some (.int k')) (hr : inR k' n) : Pu (vS (convert s d (.int k n))) (.int k' n) :=
  Still.of_run fun w => by rw [run_conv hs hd, wrap_in hr]
theorem st_convw {s d : TypeId} {k k' : IntKind} {n : Int} (hs : dd s = some (.int k)) (hd : dd d = some (.int k')) : Pu (vS (convert s d (.int k n))) (.int k' (k'.wrap n)) := Still.of_run (run_conv hs hd n)
theorem st_min {ts : Array TypeId} {t : TypeId} {k : IntKind} {a b : Int} : Pu (vS (Builtin.min_ ts t #[.int k a, .int k b])) (.int k (if b < a then b else a)) := Still.of_run fun w => by
  simp [Builtin.min_, Builtin.min2]
theorem st_max {ts : Array TypeId} {t : TypeId} {k : IntKind} {a b : Int} : Pu (vS (Builtin.max_ ts t #[.int k a, .int k b])) (.int k (if b > a then b else a)) := Still.of_run fun w => by
  simp [Builtin.max_, Builtin.max2]

/-! slices and strings -/
theorem st_len {t x ty : TypeId} {a : Option Addr} {n c : Nat} (ht : dd t = some (.sl x)) : Pu (vS (Builtin.len_ #[t] ty #[.slice a n c])) (.int .i64 n) := Still.of_run fun w => by
  simp [Builtin.len_, run_underlying (dd_sl ht), goInt]
theorem st_cap {t x ty : TypeId} {a : Option Addr} {n c : Nat} (ht : dd t = some (.sl x)) : Pu (vS (Builtin.cap_ #[t] ty #[.slice a n c])) (.int .i64 c) := Still.of_run fun w => by
  simp [Builtin.cap_, run_underlying (dd_sl ht), goInt]
theorem st_lenS {t ty : TypeId} {s : ByteArray} (ht : dd t = some .str) : Pu (vS (Builtin.len_ #[t] ty #[.string s])) (.int .i64 s.size) := Still.of_run fun w => by
  simp [Builtin.len_, run_underlying (dd_str ht), goInt]
theorem st_ix {t x sz by_ b off n c : Nat} {k : IntKind} {i : Int} (ht : dd t = some (.sl x)) (hs : szof x = some (sz, by_)) (h0 : 0 ≤ i) (h1 : i < n) :
    Pu (vS (Instr.indexAt t (.slice (some ⟨b, off, none⟩) n c) (.int k i))) (.pointer (some ⟨b, off + i.toNat * sz, none⟩)) := Still.of_run fun w => by
  obtain ⟨i', h2, h3, _⟩ := szof_spec hs
  have hz : (P.info? x).map (·.size) = some sz := by simp [h2, h3]
  simp [Instr.indexAt, asIntOf, run_underlying (dd_sl ht), h0, h1, run_sizeOf' h2, h3, Addr.add_lit]
/-- an array's element, by its address -/
theorem st_ixA {t x m sz by_ b off : Nat} {k : IntKind} {i : Int} (ht : dd t = some (.arr m x)) (hs : szof x = some (sz, by_)) (h0 : 0 ≤ i) (h1 : i < m) :
    Pu (vS (Instr.indexAt t (.pointer (some ⟨b, off, none⟩)) (.int k i))) (.pointer (some ⟨b, off + i.toNat * sz, none⟩)) := Still.of_run fun w => by
  obtain ⟨i', h2, h3, _⟩ := szof_spec hs
  simp [Instr.indexAt, Instr.sureAddr, asIntOf, run_underlying (dd_arr ht), h0, h1, run_sizeOf' h2, h3, Addr.add_lit]
theorem st_ixS {t : TypeId} {s : ByteArray} {k : IntKind} {i : Int} (ht : dd t = some .str) (h0 : 0 ≤ i) (h1 : i.toNat < s.size) :
    Pu (vS (Instr.index t (.string s) (.int k i))) (.int .u8 (s[i.toNat]).toNat) := Still.of_run fun w => by
  simp [Instr.index, asIntOf, run_underlying (dd_str ht), h0, h1]
end
end Go.Proofs.YtfofnagocedlgaaGreatDoor.Sl
end
