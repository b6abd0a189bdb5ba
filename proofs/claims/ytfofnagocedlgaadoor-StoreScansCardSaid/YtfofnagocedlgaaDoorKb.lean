/- The texts Cx Sl Rl, laid together. -/
import Derived.Test.YtfofnagocedlgaaDoorChecked
import Derived.Laws.AppendOwn
import Derived.Laws.CopyRow
import Derived.Laws.MakeOwn
import Derived.Laws.BytesString
import Derived.Laws.Slices
import Derived.Below
import Derived.Laws.Small
import Derived.IntWalk
import Derived.Test.YtfofnagocedlgaaDoorKa
section
/-
  THE PROGRAM AS THE FIRST LAYER SEES IT: how its types are seen; which functions may be entered. Printed by shx.py.
-/
namespace Go.Proofs.YtfofnagocedlgaaDoor
open Go Sh
noncomputable abbrev P : Program := Tryd.prog
def tbl : List (TypeId × RK) := [(2, (.one (.int .i64))), (3, (.one (.int .i64))), (4, (.one .bool)), (5, (.one (.int .u8))), (6, (.one (.int .u8))), (9, (.one .str)), (10, (.one .str)), (11, (.one .str)), (12, (.one (.int .u64))), (21, (.one (.int .i32))), (24, (.one (.int .i64))), (25, (.tup [.raw, (.int .i64)])), (29, (.one (.int .u64))), (37, (.tup [.raw, .bool])), (39, (.one (.int .u16))), (40, (.one (.int .u64))), (43, (.tup [.raw, (.int .i64)])), (58, (.tup [(.int .i64), .bool])), (88, (.tup [.raw, .bool])), (90, (.tup [.raw, .bool])), (111, (.tup [(.int .i64), .raw])), (115, (.one (.int .i64))), (116, (.tup [(.int .i64), (.int .i64)])), (122, (.one (.int .u32))), (125, (.one (.int .u64))), (136, (.tup [(.int .i64), (.int .i64)])), (141, (.tup [.raw, .bool])), (146, (.tup [(.int .i32), (.int .i64)])), (163, (.one (.int .u8))), (164, (.one (.int .u8))), (166, (.one (.int .i32))), (167, (.one (.int .i32)))]
def cll : List FuncId := [3, 4, 5, 6, 7, 8, 9, 10, 11, 12, 13, 14, 15, 16, 17, 18, 19, 20, 21, 22, 23, 24, 25, 26, 27, 28, 29, 30, 31, 32, 33, 34, 35, 36, 37, 38, 39, 40, 41, 42, 43, 44, 45, 46, 47, 48, 49, 50, 51, 52, 53, 54, 55, 56, 57, 58, 59, 60, 61, 62, 63, 64, 65, 66, 67, 68, 69, 70, 71, 72, 73, 74, 75, 76, 77, 78, 81, 82, 83, 84, 85, 86, 87, 88, 89, 90, 91, 92, 93, 94, 95, 96, 97, 98, 100, 123]
noncomputable def cx : Cx := ⟨P, tbl, cll⟩
def tab : List (Nat × TI) := [(0, ⟨1, 0, .other⟩), (1, ⟨1, 8, .other⟩), (2, ⟨1, 8, .int .i64⟩), (3, ⟨1, 8, .int .i64⟩), (4, ⟨1, 1, .bool⟩), (5, ⟨1, 1, .int .u8⟩), (6, ⟨1, 1, .int .u8⟩), (7, ⟨4, 24, .struct [(0, 2), (1, 3), (2, 4), (3, 6)]⟩), (8, ⟨4, 24, .struct [(0, 2), (1, 3), (2, 4), (3, 6)]⟩), (9, ⟨1, 16, .str⟩), (10, ⟨1, 16, .str⟩), (11, ⟨1, 16, .str⟩), (12, ⟨1, 8, .int .u64⟩), (13, ⟨2, 24, .struct [(0, 9), (1, 12)]⟩), (14, ⟨2, 24, .struct [(0, 9), (1, 12)]⟩), (15, ⟨1, 8, .ptr 159⟩), (16, ⟨1, 8, .ptr 162⟩), (17, ⟨1, 8, .ptr 169⟩), (18, ⟨1, 8, .struct [(0, 17)]⟩), (19, ⟨1, 8, .struct [(0, 17)]⟩), (20, ⟨1, 16, .other⟩), (21, ⟨1, 4, .int .i32⟩), (22, ⟨1, 24, .sl 39⟩), (23, ⟨1, 8, .ptr 49⟩), (24, ⟨1, 8, .int .i64⟩), (25, ⟨1, 0, .other⟩), (26, ⟨1, 8, .other⟩), (27, ⟨1, 8, .other⟩), (28, ⟨1, 8, .other⟩), (29, ⟨1, 8, .int .u64⟩), (30, ⟨1, 24, .sl 75⟩), (31, ⟨1, 24, .sl 5⟩), (32, ⟨5, 80, .struct [(0, 3), (1, 9), (2, 3), (3, 30), (4, 31)]⟩), (33, ⟨5, 80, .struct [(0, 3), (1, 9), (2, 3), (3, 30), (4, 31)]⟩), (34, ⟨9, 136, .struct [(0, 9), (1, 29), (2, 29), (3, 30), (4, 33)]⟩), (35, ⟨9, 136, .struct [(0, 9), (1, 29), (2, 29), (3, 30), (4, 33)]⟩), (36, ⟨1, 8, .other⟩), (37, ⟨1, 0, .other⟩), (38, ⟨1, 8, .other⟩), (39, ⟨1, 2, .int .u16⟩), (40, ⟨1, 8, .int .u64⟩), (41, ⟨1, 8, .other⟩), (42, ⟨1, 8, .ptr 70⟩), (43, ⟨1, 0, .other⟩), (44, ⟨1, 8, .other⟩), (45, ⟨10, 144, .struct [(0, 35), (9, 4)]⟩), (46, ⟨10, 144, .struct [(0, 35), (9, 4)]⟩), (47, ⟨640, 9216, .arr 64 46⟩), (48, ⟨644, 9248, .struct [(0, 47), (640, 42), (641, 3), (642, 3), (643, 3)]⟩), (49, ⟨644, 9248, .struct [(0, 47), (640, 42), (641, 3), (642, 3), (643, 3)]⟩), (50, ⟨1, 8, .other⟩), (51, ⟨1, 8, .other⟩), (52, ⟨1, 24, .sl 35⟩), (53, ⟨1, 8, .other⟩), (54, ⟨1, 8, .other⟩), (55, ⟨1, 8, .other⟩), (56, ⟨1, 8, .other⟩), (57, ⟨1, 8, .other⟩), (58, ⟨1, 0, .other⟩), (59, ⟨1, 8, .other⟩), (60, ⟨1, 8, .other⟩), (61, ⟨1, 8, .other⟩), (62, ⟨1, 24, .sl 46⟩), (63, ⟨1, 8, .other⟩), (64, ⟨1, 8, .other⟩), (65, ⟨1, 8, .other⟩), (66, ⟨1, 8, .other⟩), (67, ⟨1, 8, .mp 3 84⟩), (68, ⟨1, 8, .flt .f64⟩), (69, ⟨3, 24, .struct [(0, 67), (1, 68), (2, 3)]⟩), (70, ⟨3, 24, .struct [(0, 67), (1, 68), (2, 3)]⟩), (71, ⟨1, 8, .other⟩), (72, ⟨1, 8, .other⟩), (73, ⟨1, 8, .other⟩), (74, ⟨2, 32, .struct [(0, 9), (1, 9)]⟩), (75, ⟨2, 32, .struct [(0, 9), (1, 9)]⟩), (76, ⟨1, 24, .sl 30⟩), (77, ⟨1, 24, .sl 3⟩), (78, ⟨1, 8, .other⟩), (79, ⟨1, 24, .sl 77⟩), (80, ⟨1, 8, .other⟩), (81, ⟨1, 8, .other⟩), (82, ⟨1, 8, .other⟩), (83, ⟨1, 8, .other⟩), (84, ⟨1, 16, .cpl .f64⟩), (85, ⟨1, 8, .other⟩), (86, ⟨1, 8, .other⟩), (87, ⟨1, 8, .other⟩), (88, ⟨1, 0, .other⟩), (89, ⟨1, 24, .sl 9⟩), (90, ⟨1, 0, .other⟩), (91, ⟨1, 8, .other⟩), (92, ⟨1, 8, .other⟩), (93, ⟨1, 8, .other⟩), (94, ⟨1, 8, .other⟩), (95, ⟨1, 8, .other⟩), (96, ⟨1, 8, .mp 9 3⟩), (97, ⟨1, 8, .other⟩), (98, ⟨1, 8, .other⟩), (99, ⟨1, 8, .other⟩), (100, ⟨1, 8, .other⟩), (101, ⟨1, 8, .other⟩), (102, ⟨1, 8, .other⟩), (103, ⟨1, 8, .other⟩), (104, ⟨1, 8, .other⟩), (105, ⟨1, 8, .other⟩), (106, ⟨1, 8, .ptr 108⟩), (107, ⟨2, 32, .struct [(0, 106), (1, 31)]⟩), (108, ⟨2, 32, .struct [(0, 106), (1, 31)]⟩), (109, ⟨1, 16, .other⟩), (110, ⟨1, 16, .other⟩), (111, ⟨1, 0, .other⟩), (112, ⟨1, 8, .other⟩), (113, ⟨1, 8, .other⟩), (114, ⟨1, 8, .other⟩), (115, ⟨1, 8, .int .i64⟩), (116, ⟨1, 0, .other⟩), (117, ⟨1, 8, .other⟩), (118, ⟨1, 8, .other⟩), (119, ⟨1, 8, .other⟩), (120, ⟨1, 8, .other⟩), (121, ⟨1, 8, .other⟩), (122, ⟨1, 4, .int .u32⟩), (123, ⟨1, 8, .other⟩), (124, ⟨1, 8, .ptr 5⟩), (125, ⟨1, 8, .int .u64⟩), (126, ⟨1, 8, .other⟩), (127, ⟨1, 8, .other⟩), (128, ⟨1, 8, .other⟩), (129, ⟨1, 8, .ptr 3⟩), (130, ⟨1, 8, .other⟩), (131, ⟨1, 8, .other⟩), (132, ⟨1, 8, .other⟩), (133, ⟨1, 8, .other⟩), (134, ⟨1, 8, .other⟩), (135, ⟨1, 8, .ptr 125⟩), (136, ⟨1, 0, .other⟩), (137, ⟨1, 8, .other⟩), (138, ⟨1, 8, .other⟩), (139, ⟨256, 256, .arr 256 4⟩), (140, ⟨256, 256, .arr 256 4⟩), (141, ⟨1, 0, .other⟩), (142, ⟨1, 8, .other⟩), (143, ⟨1, 8, .other⟩), (144, ⟨1, 8, .ptr 140⟩), (145, ⟨1, 8, .other⟩), (146, ⟨1, 0, .other⟩), (147, ⟨1, 8, .other⟩), (148, ⟨1, 8, .other⟩), (149, ⟨1, 8, .other⟩), (150, ⟨256, 256, .arr 256 5⟩), (151, ⟨2, 2, .struct [(0, 5), (1, 5)]⟩), (152, ⟨2, 2, .struct [(0, 5), (1, 5)]⟩), (153, ⟨32, 32, .arr 16 152⟩), (154, ⟨1, 8, .other⟩), (155, ⟨1, 8, .other⟩), (156, ⟨1, 8, .other⟩), (157, ⟨1, 8, .other⟩), (158, ⟨4, 40, .struct [(0, 17), (1, 17), (2, 17), (3, 9)]⟩), (159, ⟨4, 40, .struct [(0, 17), (1, 17), (2, 17), (3, 9)]⟩), (160, ⟨0, 0, .arr 0 16⟩), (161, ⟨0, 0, .struct [(0, 160)]⟩), (162, ⟨0, 0, .struct [(0, 160)]⟩), (163, ⟨1, 1, .int .u8⟩), (164, ⟨1, 1, .int .u8⟩), (165, ⟨1, 8, .other⟩), (166, ⟨1, 4, .int .i32⟩), (167, ⟨1, 4, .int .i32⟩), (168, ⟨11, 48, .struct [(0, 12), (1, 12), (2, 122), (3, 163), (4, 5), (5, 5), (6, 164), (7, 165), (8, 124), (9, 166), (10, 167)]⟩), (169, ⟨11, 48, .struct [(0, 12), (1, 12), (2, 122), (3, 163), (4, 5), (5, 5), (6, 164), (7, 165), (8, 124), (9, 166), (10, 167)]⟩)]
theorem tab_ok : tab.map (fun p => tiOf P p.1) = tab.map (fun p => some p.2) := by kernel_rfl
def ztab : List (Nat × List Value) := [(1, [.nilFunc]), (2, [.int .i64 0]), (3, [.int .i64 0]), (4, [.bool false]), (5, [.int .u8 0]), (6, [.int .u8 0]), (7, [.int .i64 0, .int .i64 0, .bool false, .int .u8 0]), (8, [.int .i64 0, .int .i64 0, .bool false, .int .u8 0]), (9, [.string ⟨#[]⟩]), (10, [.string ⟨#[]⟩]), (11, [.string ⟨#[]⟩]), (12, [.int .u64 0]), (13, [.string ⟨#[]⟩, .int .u64 0]), (14, [.string ⟨#[]⟩, .int .u64 0]), (15, [.pointer none]), (16, [.pointer none]), (17, [.pointer none]), (18, [.pointer none]), (19, [.pointer none]), (20, [.nilIface]), (21, [.int .i32 0]), (22, [.slice none 0 0]), (23, [.pointer none]), (24, [.int .i64 0]), (26, [.nilFunc]), (27, [.nilFunc]), (28, [.nilFunc]), (29, [.int .u64 0]), (30, [.slice none 0 0]), (31, [.slice none 0 0]), (32, [.int .i64 0, .string ⟨#[]⟩, .int .i64 0, .slice none 0 0, .slice none 0 0]), (33, [.int .i64 0, .string ⟨#[]⟩, .int .i64 0, .slice none 0 0, .slice none 0 0]), (34, [.string ⟨#[]⟩, .int .u64 0, .int .u64 0, .slice none 0 0, .int .i64 0, .string ⟨#[]⟩, .int .i64 0, .slice none 0 0, .slice none 0 0]), (35, [.string ⟨#[]⟩, .int .u64 0, .int .u64 0, .slice none 0 0, .int .i64 0, .string ⟨#[]⟩, .int .i64 0, .slice none 0 0, .slice none 0 0]), (36, [.nilFunc]), (38, [.nilFunc]), (39, [.int .u16 0]), (40, [.int .u64 0]), (41, [.nilFunc]), (42, [.pointer none]), (44, [.nilFunc]), (45, [.string ⟨#[]⟩, .int .u64 0, .int .u64 0, .slice none 0 0, .int .i64 0, .string ⟨#[]⟩, .int .i64 0, .slice none 0 0, .slice none 0 0, .bool false]), (46, [.string ⟨#[]⟩, .int .u64 0, .int .u64 0, .slice none 0 0, .int .i64 0, .string ⟨#[]⟩, .int .i64 0, .slice none 0 0, .slice none 0 0, .bool false]), (47, (List.replicate 64 [.string ⟨#[]⟩, .int .u64 0, .int .u64 0, .slice none 0 0, .int .i64 0, .string ⟨#[]⟩, .int .i64 0, .slice none 0 0, .slice none 0 0, .bool false]).flatten), (48, (List.replicate 64 [.string ⟨#[]⟩, .int .u64 0, .int .u64 0, .slice none 0 0, .int .i64 0, .string ⟨#[]⟩, .int .i64 0, .slice none 0 0, .slice none 0 0, .bool false]).flatten ++ [.pointer none, .int .i64 0, .int .i64 0, .int .i64 0]), (49, (List.replicate 64 [.string ⟨#[]⟩, .int .u64 0, .int .u64 0, .slice none 0 0, .int .i64 0, .string ⟨#[]⟩, .int .i64 0, .slice none 0 0, .slice none 0 0, .bool false]).flatten ++ [.pointer none, .int .i64 0, .int .i64 0, .int .i64 0]), (50, [.nilFunc]), (51, [.nilFunc]), (52, [.slice none 0 0]), (53, [.nilFunc]), (54, [.nilFunc]), (55, [.nilFunc]), (56, [.nilFunc]), (57, [.nilFunc]), (59, [.nilFunc]), (60, [.nilFunc]), (61, [.nilFunc]), (62, [.slice none 0 0]), (63, [.nilFunc]), (64, [.nilFunc]), (65, [.nilFunc]), (66, [.nilFunc]), (67, [.map none]), (68, [.float .f64 0]), (69, [.map none, .float .f64 0, .int .i64 0]), (70, [.map none, .float .f64 0, .int .i64 0]), (71, [.nilFunc]), (72, [.nilFunc]), (73, [.nilFunc]), (74, [.string ⟨#[]⟩, .string ⟨#[]⟩]), (75, [.string ⟨#[]⟩, .string ⟨#[]⟩]), (76, [.slice none 0 0]), (77, [.slice none 0 0]), (78, [.nilFunc]), (79, [.slice none 0 0]), (80, [.nilFunc]), (81, [.nilFunc]), (82, [.nilFunc]), (83, [.nilFunc]), (84, [.complex .f64 0 0]), (85, [.nilFunc]), (86, [.nilFunc]), (87, [.nilFunc]), (89, [.slice none 0 0]), (91, [.nilFunc]), (92, [.nilFunc]), (93, [.nilFunc]), (94, [.nilFunc]), (95, [.nilFunc]), (96, [.map none]), (97, [.nilFunc]), (98, [.nilFunc]), (99, [.nilFunc]), (100, [.nilFunc]), (101, [.nilFunc]), (102, [.nilFunc]), (103, [.nilFunc]), (104, [.nilFunc]), (105, [.nilFunc]), (106, [.pointer none]), (107, [.pointer none, .slice none 0 0]), (108, [.pointer none, .slice none 0 0]), (109, [.nilIface]), (110, [.nilIface]), (112, [.nilFunc]), (113, [.nilFunc]), (114, [.nilFunc]), (115, [.int .i64 0]), (117, [.nilFunc]), (118, [.nilFunc]), (119, [.nilFunc]), (120, [.nilFunc]), (121, [.nilFunc]), (122, [.int .u32 0]), (123, [.nilFunc]), (124, [.pointer none]), (125, [.int .u64 0]), (126, [.nilFunc]), (127, [.nilFunc]), (128, [.nilFunc]), (129, [.pointer none]), (130, [.nilFunc]), (131, [.nilFunc]), (132, [.pointer none]), (133, [.nilFunc]), (134, [.nilFunc]), (135, [.pointer none]), (137, [.nilFunc]), (138, [.nilFunc]), (139, List.replicate 256 (.bool false)), (140, List.replicate 256 (.bool false)), (142, [.nilFunc]), (143, [.nilFunc]), (144, [.pointer none]), (145, [.nilFunc]), (147, [.nilFunc]), (148, [.nilFunc]), (149, [.nilFunc]), (150, List.replicate 256 (.int .u8 0)), (151, [.int .u8 0, .int .u8 0]), (152, [.int .u8 0, .int .u8 0]), (153, [.int .u8 0, .int .u8 0, .int .u8 0, .int .u8 0, .int .u8 0, .int .u8 0, .int .u8 0, .int .u8 0, .int .u8 0, .int .u8 0, .int .u8 0, .int .u8 0, .int .u8 0, .int .u8 0, .int .u8 0, .int .u8 0, .int .u8 0, .int .u8 0, .int .u8 0, .int .u8 0, .int .u8 0, .int .u8 0, .int .u8 0, .int .u8 0, .int .u8 0, .int .u8 0, .int .u8 0, .int .u8 0, .int .u8 0, .int .u8 0, .int .u8 0, .int .u8 0]), (154, [.nilFunc]), (155, [.nilFunc]), (156, [.nilFunc]), (157, [.nilFunc]), (158, [.pointer none, .pointer none, .pointer none, .string ⟨#[]⟩]), (159, [.pointer none, .pointer none, .pointer none, .string ⟨#[]⟩]), (160, []), (161, []), (162, []), (163, [.int .u8 0]), (164, [.int .u8 0]), (165, [.nilFunc]), (166, [.int .i32 0]), (167, [.int .i32 0]), (168, [.int .u64 0, .int .u64 0, .int .u32 0, .int .u8 0, .int .u8 0, .int .u8 0, .int .u8 0, .nilFunc, .pointer none, .int .i32 0, .int .i32 0]), (169, [.int .u64 0, .int .u64 0, .int .u32 0, .int .u8 0, .int .u8 0, .int .u8 0, .int .u8 0, .nilFunc, .pointer none, .int .i32 0, .int .i32 0])]
theorem ztab_ok : ztab.map (fun p => zeroOf P p.1) = ztab.map (fun p => some p.2) := by kernel_rfl
def ti : Nat → Option TI := lookTI tab
def zro : Nat → Option (List Value) := lookTI ztab
theorem cx_ok : cx.Ok := ⟨callables P cll (by kernel_rfl), by kernel_rfl⟩
abbrev law21_StoreScans (a0 : Int) (a1 : Value) (K : Bool → WP) : WP := FnK P (.one .bool) 3 #[(.int .u8 a0), a1] K
abbrev store_New (a0 : Int) (a1 : Int) (K : Value → Int → WP) : WP := FnK P (.tup [.raw, (.int .i64)]) 4 #[(.int .i64 a0), (.int .i64 a1)] K
abbrev law21_awake (K : Bool → WP) : WP := FnK P (.one .bool) 5 #[] K
abbrev store_Store_Put (a0 : Value) (a1 : Value) (K : Int → WP) : WP := FnK P (.one (.int .i64)) 6 #[a0, a1] K
abbrev law21_E (a0 : ByteArray) (a1 : Int) (K : Value → WP) : WP := FnK P (.one .raw) 7 #[(.string a0), (.int .i64 a1)] K
abbrev store_Store_Get (a0 : Value) (a1 : ByteArray) (a2 : Value) (K : Value → Bool → WP) : WP := FnK P (.tup [.raw, .bool]) 8 #[a0, (.string a1), a2] K
abbrev store_Store_Look (a0 : Value) (a1 : ByteArray) (a2 : Value) (K : Value → Bool → WP) : WP := FnK P (.tup [.raw, .bool]) 9 #[a0, (.string a1), a2] K
abbrev lru_New (a0 : Int) (K : Value → Int → WP) : WP := FnK P (.tup [.raw, (.int .i64)]) 10 #[(.int .i64 a0)] K
abbrev ref21_Same (a0 : Value) (a1 : Value) (K : Bool → WP) : WP := FnK P (.one .bool) 11 #[a0, a1] K
abbrev store_Store_Used (a0 : Value) (K : Int → WP) : WP := FnK P (.one (.int .i64)) 12 #[a0] K
abbrev store_Store_Entries (a0 : Value) (K : Value → WP) : WP := FnK P (.one .raw) 13 #[a0] K
abbrev store_Store_gone (a0 : Value) (a1 : Value) (K : Int → WP) : WP := FnK P (.one (.int .i64)) 14 #[a0, a1] K
abbrev store_Store_Put_c1 (a0 : Value) (a1 : Value) (K : Bool → WP) : WP := FnK P (.one .bool) 15 #[a0, a1] K
abbrev vary_Same (a0 : Value) (a1 : Value) (K : Bool → WP) : WP := FnK P (.one .bool) 16 #[a0, a1] K
abbrev store_Size (a0 : Value) (K : Int → WP) : WP := FnK P (.one (.int .i64)) 17 #[a0] K
abbrev store_Store_count (a0 : Value) (K : Int → WP) : WP := FnK P (.one (.int .i64)) 18 #[a0] K
abbrev lru_List_Victim (a0 : Value) (K : Int → Bool → WP) : WP := FnK P (.tup [(.int .i64), .bool]) 19 #[a0] K
abbrev store_Store_out (a0 : Value) (a1 : Int) (K : Value → WP) : WP := FnK P (.one .raw) 20 #[a0, (.int .i64 a1)] K
abbrev slices_IndexFunc_slot (a0 : Value) (a1 : Value) (K : Int → WP) : WP := FnK P (.one (.int .i64)) 21 #[a0, a1] K
abbrev store_Store_Put_c2 (a0 : Value) (K : Bool → WP) : WP := FnK P (.one .bool) 22 #[a0] K
abbrev store_copied (a0 : Value) (K : Value → WP) : WP := FnK P (.one .raw) 23 #[a0] K
abbrev lru_List_Add (a0 : Value) (a1 : Int) (K : Int → WP) : WP := FnK P (.one (.int .i64)) 24 #[a0, (.int .i64 a1)] K
abbrev store_Store_find (a0 : Value) (a1 : ByteArray) (a2 : Value) (K : Int → Bool → WP) : WP := FnK P (.tup [(.int .i64), .bool]) 25 #[a0, (.string a1), a2] K
abbrev lru_List_Touch (a0 : Value) (a1 : Int) (K : Int → WP) : WP := FnK P (.one (.int .i64)) 26 #[a0, (.int .i64 a1)] K
abbrev ref09_SameFields (a0 : Value) (a1 : Value) (K : Bool → WP) : WP := FnK P (.one .bool) 27 #[a0, a1] K
abbrev ref09_SameResponse (a0 : Value) (a1 : Value) (K : Bool → WP) : WP := FnK P (.one .bool) 28 #[a0, a1] K
abbrev store_Store_all (a0 : Value) (K : Value → WP) : WP := FnK P (.one .raw) 29 #[a0] K
abbrev slices_Equal_Field (a0 : Value) (a1 : Value) (K : Bool → WP) : WP := FnK P (.one .bool) 30 #[a0, a1] K
abbrev lru_List_Tried (a0 : Value) (K : Value → WP) : WP := FnK P (.one .raw) 31 #[a0] K
abbrev lru_List_Kept (a0 : Value) (K : Value → WP) : WP := FnK P (.one .raw) 32 #[a0] K
abbrev lru_List_Remove (a0 : Value) (a1 : Int) (K : Int → WP) : WP := FnK P (.one (.int .i64)) 33 #[a0, (.int .i64 a1)] K
abbrev slices_Clone_Field (a0 : Value) (K : Value → WP) : WP := FnK P (.one .raw) 34 #[a0] K
abbrev bytes_Clone (a0 : Value) (K : Value → WP) : WP := FnK P (.one .raw) 35 #[a0] K
abbrev lru_List_ready (a0 : Value) (a1 : Int) (a2 : Bool) (K : Int → WP) : WP := FnK P (.one (.int .i64)) 36 #[a0, (.int .i64 a1), (.bool a2)] K
abbrev lru_List_put (a0 : Value) (a1 : Int) (a2 : Value) (K : Value → WP) : WP := FnK P (.one .raw) 37 #[a0, (.int .i64 a1), a2] K
abbrev store_For (a0 : Value) (a1 : Value) (K : Bool → WP) : WP := FnK P (.one .bool) 38 #[a0, a1] K
abbrev store_Store_all_c1 (a0 : Value) (a1 : Value) (K : Value → WP) : WP := FnK P (.one .raw) 39 #[a0, a1] K
abbrev lru_List_in (a0 : Value) (a1 : Value) (K : Value → WP) : WP := FnK P (.one .raw) 40 #[a0, a1] K
abbrev vary_Names (a0 : Value) (K : Value → Bool → WP) : WP := FnK P (.tup [.raw, .bool]) 41 #[a0] K
abbrev vary_Select (a0 : Value) (a1 : Value) (K : Value → WP) : WP := FnK P (.one .raw) 42 #[a0, a1] K
abbrev slices_SortFunc_int (a0 : Value) (a1 : Value) (K : Value → WP) : WP := FnK P (.one .raw) 43 #[a0, a1] K
abbrev lru_List_in_c1 (a0 : Int) (a1 : Int) (a2 : Value) (K : Int → WP) : WP := FnK P (.one (.int .i64)) 44 #[(.int .i64 a0), (.int .i64 a1), a2] K
abbrev cmp_Compare_float64 (a0 : Value) (a1 : Value) (K : Int → WP) : WP := FnK P (.one (.int .i64)) 45 #[a0, a1] K
abbrev hop_Elements (a0 : Value) (a1 : ByteArray) (K : Value → WP) : WP := FnK P (.one .raw) 46 #[a0, (.string a1)] K
abbrev text_Lower (a0 : ByteArray) (K : ByteArray → WP) : WP := FnK P (.one .str) 47 #[(.string a0)] K
abbrev vary_Select_c1 (a0 : ByteArray) (a1 : Value) (a2 : Value) (K : Value → WP) : WP := FnK P (.one .raw) 48 #[(.string a0), a1, a2] K
abbrev head_Get (a0 : Value) (a1 : ByteArray) (K : Value → WP) : WP := FnK P (.one .raw) 49 #[a0, (.string a1)] K
abbrev strings_Join (a0 : Value) (a1 : ByteArray) (K : ByteArray → WP) : WP := FnK P (.one .str) 50 #[a0, (.string a1)] K
abbrev slices_pdqsortCmpFunc_int (a0 : Value) (a1 : Int) (a2 : Int) (a3 : Int) (a4 : Value) (K : Value → WP) : WP := FnK P (.one .raw) 51 #[a0, (.int .i64 a1), (.int .i64 a2), (.int .i64 a3), a4] K
abbrev bits_Len (a0 : Int) (K : Int → WP) : WP := FnK P (.one (.int .i64)) 52 #[(.int .u64 a0)] K
abbrev cmp_isNaN_float64 (a0 : Value) (K : Bool → WP) : WP := FnK P (.one .bool) 53 #[a0] K
abbrev text_List (a0 : ByteArray) (K : Value → WP) : WP := FnK P (.one .raw) 54 #[(.string a0)] K
abbrev text_Same (a0 : ByteArray) (a1 : ByteArray) (K : Bool → WP) : WP := FnK P (.one .bool) 55 #[(.string a0), (.string a1)] K
abbrev strings_Builder_Grow (a0 : Value) (a1 : Int) (K : Value → WP) : WP := FnK P (.one .raw) 56 #[a0, (.int .i64 a1)] K
abbrev strings_Builder_WriteString (a0 : Value) (a1 : ByteArray) (K : Int → Value → WP) : WP := FnK P (.tup [(.int .i64), .raw]) 57 #[a0, (.string a1)] K
abbrev strings_Builder_String (a0 : Value) (K : ByteArray → WP) : WP := FnK P (.one .str) 58 #[a0] K
abbrev slices_insertionSortCmpFunc_int (a0 : Value) (a1 : Int) (a2 : Int) (a3 : Value) (K : Value → WP) : WP := FnK P (.one .raw) 59 #[a0, (.int .i64 a1), (.int .i64 a2), a3] K
abbrev slices_heapSortCmpFunc_int (a0 : Value) (a1 : Int) (a2 : Int) (a3 : Value) (K : Value → WP) : WP := FnK P (.one .raw) 60 #[a0, (.int .i64 a1), (.int .i64 a2), a3] K
abbrev slices_breakPatternsCmpFunc_int (a0 : Value) (a1 : Int) (a2 : Int) (a3 : Value) (K : Value → WP) : WP := FnK P (.one .raw) 61 #[a0, (.int .i64 a1), (.int .i64 a2), a3] K
abbrev slices_choosePivotCmpFunc_int (a0 : Value) (a1 : Int) (a2 : Int) (a3 : Value) (K : Int → Int → WP) : WP := FnK P (.tup [(.int .i64), (.int .i64)]) 62 #[a0, (.int .i64 a1), (.int .i64 a2), a3] K
abbrev slices_reverseRangeCmpFunc_int (a0 : Value) (a1 : Int) (a2 : Int) (a3 : Value) (K : Value → WP) : WP := FnK P (.one .raw) 63 #[a0, (.int .i64 a1), (.int .i64 a2), a3] K
abbrev slices_partialInsertionSortCmpFunc_int (a0 : Value) (a1 : Int) (a2 : Int) (a3 : Value) (K : Bool → WP) : WP := FnK P (.one .bool) 64 #[a0, (.int .i64 a1), (.int .i64 a2), a3] K
abbrev slices_partitionEqualCmpFunc_int (a0 : Value) (a1 : Int) (a2 : Int) (a3 : Int) (a4 : Value) (K : Int → WP) : WP := FnK P (.one (.int .i64)) 65 #[a0, (.int .i64 a1), (.int .i64 a2), (.int .i64 a3), a4] K
abbrev slices_partitionCmpFunc_int (a0 : Value) (a1 : Int) (a2 : Int) (a3 : Int) (a4 : Value) (K : Int → Bool → WP) : WP := FnK P (.tup [(.int .i64), .bool]) 66 #[a0, (.int .i64 a1), (.int .i64 a2), (.int .i64 a3), a4] K
abbrev bits_Len32 (a0 : Int) (K : Int → WP) : WP := FnK P (.one (.int .i64)) 67 #[(.int .u32 a0)] K
abbrev bits_Len64 (a0 : Int) (K : Int → WP) : WP := FnK P (.one (.int .i64)) 68 #[(.int .u64 a0)] K
abbrev text_List_c1 (a0 : Int) (a1 : Value) (a2 : Value) (a3 : Value) (K : Value → WP) : WP := FnK P (.one .raw) 69 #[(.int .i64 a0), a1, a2, a3] K
abbrev text_Trim (a0 : ByteArray) (K : ByteArray → WP) : WP := FnK P (.one .str) 70 #[(.string a0)] K
abbrev strings_Builder_copyCheck (a0 : Value) (K : Value → WP) : WP := FnK P (.one .raw) 71 #[a0] K
abbrev strings_Builder_grow (a0 : Value) (a1 : Int) (K : Value → WP) : WP := FnK P (.one .raw) 72 #[a0, (.int .i64 a1)] K
abbrev slices_siftDownCmpFunc_int (a0 : Value) (a1 : Int) (a2 : Int) (a3 : Int) (a4 : Value) (K : Value → WP) : WP := FnK P (.one .raw) 73 #[a0, (.int .i64 a1), (.int .i64 a2), (.int .i64 a3), a4] K
abbrev slices_nextPowerOfTwo (a0 : Int) (K : Int → WP) : WP := FnK P (.one (.int .u64)) 74 #[(.int .i64 a0)] K
abbrev slices_xorshift_Next (a0 : Value) (K : Int → WP) : WP := FnK P (.one (.int .u64)) 75 #[a0] K
abbrev slices_medianAdjacentCmpFunc_int (a0 : Value) (a1 : Int) (a2 : Value) (a3 : Value) (K : Int → WP) : WP := FnK P (.one (.int .i64)) 76 #[a0, (.int .i64 a1), a2, a3] K
abbrev slices_medianCmpFunc_int (a0 : Value) (a1 : Int) (a2 : Int) (a3 : Int) (a4 : Value) (a5 : Value) (K : Int → WP) : WP := FnK P (.one (.int .i64)) 77 #[a0, (.int .i64 a1), (.int .i64 a2), (.int .i64 a3), a4, a5] K
abbrev strings_Trim (a0 : ByteArray) (a1 : ByteArray) (K : ByteArray → WP) : WP := FnK P (.one .str) 78 #[(.string a0), (.string a1)] K
abbrev slices_order2CmpFunc_int (a0 : Value) (a1 : Int) (a2 : Int) (a3 : Value) (a4 : Value) (K : Int → Int → WP) : WP := FnK P (.tup [(.int .i64), (.int .i64)]) 81 #[a0, (.int .i64 a1), (.int .i64 a2), a3, a4] K
abbrev strings_trimLeftByte (a0 : ByteArray) (a1 : Int) (K : ByteArray → WP) : WP := FnK P (.one .str) 82 #[(.string a0), (.int .u8 a1)] K
abbrev strings_trimRightByte (a0 : ByteArray) (a1 : Int) (K : ByteArray → WP) : WP := FnK P (.one .str) 83 #[(.string a0), (.int .u8 a1)] K
abbrev strings_makeASCIISet (a0 : ByteArray) (K : Value → Bool → WP) : WP := FnK P (.tup [.raw, .bool]) 84 #[(.string a0)] K
abbrev strings_trimLeftASCII (a0 : ByteArray) (a1 : Value) (K : ByteArray → WP) : WP := FnK P (.one .str) 85 #[(.string a0), a1] K
abbrev strings_trimRightASCII (a0 : ByteArray) (a1 : Value) (K : ByteArray → WP) : WP := FnK P (.one .str) 86 #[(.string a0), a1] K
abbrev strings_trimLeftUnicode (a0 : ByteArray) (a1 : ByteArray) (K : ByteArray → WP) : WP := FnK P (.one .str) 87 #[(.string a0), (.string a1)] K
abbrev strings_trimRightUnicode (a0 : ByteArray) (a1 : ByteArray) (K : ByteArray → WP) : WP := FnK P (.one .str) 88 #[(.string a0), (.string a1)] K
abbrev strings_asciiSet_contains (a0 : Value) (a1 : Int) (K : Bool → WP) : WP := FnK P (.one .bool) 89 #[a0, (.int .u8 a1)] K
abbrev utf8_DecodeRuneInString (a0 : ByteArray) (K : Int → Int → WP) : WP := FnK P (.tup [(.int .i32), (.int .i64)]) 90 #[(.string a0)] K
abbrev strings_ContainsRune (a0 : ByteArray) (a1 : Int) (K : Bool → WP) : WP := FnK P (.one .bool) 91 #[(.string a0), (.int .i32 a1)] K
abbrev utf8_DecodeLastRuneInString (a0 : ByteArray) (K : Int → Int → WP) : WP := FnK P (.tup [(.int .i32), (.int .i64)]) 92 #[(.string a0)] K
abbrev utf8_decodeRuneInStringSlow (a0 : ByteArray) (K : Int → Int → WP) : WP := FnK P (.tup [(.int .i32), (.int .i64)]) 93 #[(.string a0)] K
abbrev strings_IndexRune (a0 : ByteArray) (a1 : Int) (K : Int → WP) : WP := FnK P (.one (.int .i64)) 94 #[(.string a0), (.int .i32 a1)] K
abbrev utf8_RuneStart (a0 : Int) (K : Bool → WP) : WP := FnK P (.one .bool) 95 #[(.int .u8 a0)] K
abbrev strings_IndexByte (a0 : ByteArray) (a1 : Int) (K : Int → WP) : WP := FnK P (.one (.int .i64)) 96 #[(.string a0), (.int .u8 a1)] K
abbrev utf8_ValidRune (a0 : Int) (K : Bool → WP) : WP := FnK P (.one .bool) 97 #[(.int .i32 a0)] K
abbrev bytealg_Cutover (a0 : Int) (K : Int → WP) : WP := FnK P (.one (.int .i64)) 98 #[(.int .i64 a0)] K
abbrev stringslite_IndexByte (a0 : ByteArray) (a1 : Int) (K : Int → WP) : WP := FnK P (.one (.int .i64)) 100 #[(.string a0), (.int .u8 a1)] K
abbrev gosem_cut_vars (K : Value → WP) : WP := FnK P (.one .raw) 123 #[] K
end Go.Proofs.YtfofnagocedlgaaDoor
end
section
/-
  THE SECOND LAYER: what is held of memory, as a list of parts that lie apart ('Ent e ctx prog': whoever holds 'ctx' may run 'prog').
-/
set_option maxRecDepth 100000
set_option linter.unusedVariables false
set_option linter.unusedSimpArgs false
namespace Go.Proofs.YtfofnagocedlgaaDoor.Sl
open Go Sh

abbrev Hp := Nat → Option Obj
abbrev HProp := Hp → Prop
def Hp.le (a b : Hp) : Prop := ∀ i o, a i = some o → b i = some o
def Hp.disj (a b : Hp) : Prop := ∀ i, a i = none ∨ b i = none
theorem Hp.le_refl (a : Hp) : Hp.le a a := fun _ _ h => h
theorem Hp.le_trans {a b c : Hp} (h : Hp.le a b) (k : Hp.le b c) : Hp.le a c := fun i o x => k i o (h i o x)
theorem Hp.disj_symm {a b : Hp} (h : Hp.disj a b) : Hp.disj b a := fun i => (h i).symm
def sepL : List HProp → HProp
  | [] => fun _ => True
  | A :: l => fun h => ∃ h1 h2, Hp.disj h1 h2 ∧ Hp.le h1 h ∧ Hp.le h2 h ∧ A h1 ∧ sepL l h2
def hpOf (w : World) : Hp := fun b => w.heap[b]?

theorem sepL_mono {l : List HProp} {h h' : Hp} (hl : Hp.le h h') (k : sepL l h) : sepL l h' := by
  cases l with
  | nil => trivial
  | cons A l =>
    obtain ⟨h1, h2, hd, l1, l2, hA, hr⟩ := k
    exact ⟨h1, h2, hd, Hp.le_trans l1 hl, Hp.le_trans l2 hl, hA, hr⟩
theorem sepL_swap {A B : HProp} {l : List HProp} {h : Hp} (k : sepL (A :: B :: l) h) : sepL (B :: A :: l) h := by
  obtain ⟨h1, h2, hd, l1, l2, hA, h3, h4, hd', l3, l4, hB, hr⟩ := k
  -- h3 for B, and h1 with h4
  let h5 : Hp := fun i => match h1 i with | some o => some o | none => h4 i
  have d34 := hd'
  refine ⟨h3, h5, ?_, Hp.le_trans l3 l2, ?_, hB, h1, h4, ?_, ?_, ?_, hA, hr⟩
  · intro i
    cases e3 : h3 i with
    | none => exact .inl rfl
    | some o =>
      refine .inr ?_
      have a1 : h1 i = none := by
        rcases hd i with a | a
        · exact a
        · rw [l3 i o e3] at a; cases a
      have a4 : h4 i = none := by
        rcases d34 i with a | a
        · rw [e3] at a; cases a
        · exact a
      simp [h5, a1, a4]
  · intro i o e
    simp only [h5] at e
    cases e1 : h1 i with
    | none => rw [e1] at e; exact l2 i o (l4 i o e)
    | some o' => rw [e1] at e; cases e; exact l1 i _ e1
  · intro i
    rcases hd i with a | a
    · exact .inl a
    · refine .inr ?_
      cases e4 : h4 i with
      | none => rfl
      | some o => rw [l4 i o e4] at a; cases a
  · intro i o e; simp [h5, e]
  · intro i o e
    simp only [h5]
    rcases hd i with a | a
    · rw [a]; exact e
    · rw [l4 i o e] at a; cases a
theorem sepL_cons {A A' : HProp} {l l' : List HProp} {h : Hp} (hA : ∀ h, A h → A' h) (hl : ∀ h, sepL l h → sepL l' h) (k : sepL (A :: l) h) : sepL (A' :: l') h := by
  obtain ⟨h1, h2, hd, l1, l2, a, r⟩ := k
  exact ⟨h1, h2, hd, l1, l2, hA _ a, hl _ r⟩
theorem sepL_perm {l l' : List HProp} (p : l.Perm l') : ∀ h, sepL l h → sepL l' h := by
  induction p with
  | nil => exact fun _ h => h
  | cons A _ ih => exact fun h k => sepL_cons (fun _ a => a) ih k
  | swap A B l => exact fun h k => sepL_swap k
  | trans _ _ ih1 ih2 => exact fun h k => ih2 h (ih1 h k)
theorem sepL_drop {A : HProp} {l : List HProp} {h : Hp} (k : sepL (A :: l) h) : sepL l h := by
  obtain ⟨h1, h2, _, _, l2, _, r⟩ := k
  exact sepL_mono l2 r
/-- two lists in one -/
theorem sepL_append : ∀ (l r : List HProp) (h : Hp), sepL (l ++ r) h ↔ ∃ h1 h2, Hp.disj h1 h2 ∧ Hp.le h1 h ∧ Hp.le h2 h ∧ sepL l h1 ∧ sepL r h2
  | [], r, h => ⟨fun k => ⟨fun _ => none, h, fun _ => .inl rfl, (fun _ _ e => by cases e), Hp.le_refl h, trivial, k⟩, fun ⟨_, _, _, _, l2, _, k⟩ => sepL_mono l2 k⟩
  | A :: l, r, h => by
    constructor
    · rintro ⟨h1, h2, hd, l1, l2, hA, k⟩
      obtain ⟨h3, h4, hd', l3, l4, k1, k2⟩ := (sepL_append l r h2).1 k
      let h5 : Hp := fun i => match h1 i with | some o => some o | none => h3 i
      refine ⟨h5, h4, ?_, ?_, Hp.le_trans l4 l2, ⟨h1, h3, ?_, ?_, ?_, hA, k1⟩, k2⟩
      · intro i
        cases e4 : h4 i with
        | none => exact .inr rfl
        | some o =>
          refine .inl ?_
          have a1 : h1 i = none := by
            rcases hd i with a | a
            · exact a
            · rw [l4 i o e4] at a; cases a
          have a3 : h3 i = none := by
            rcases hd' i with a | a
            · exact a
            · rw [e4] at a; cases a
          simp [h5, a1, a3]
      · intro i o e
        simp only [h5] at e
        cases e1 : h1 i with
        | none => rw [e1] at e; exact l2 i o (l3 i o e)
        | some o' => rw [e1] at e; cases e; exact l1 i _ e1
      · intro i
        rcases hd i with a | a
        · exact .inl a
        · refine .inr ?_
          cases e3 : h3 i with
          | none => rfl
          | some o => rw [l3 i o e3] at a; cases a
      · intro i o e; simp [h5, e]
      · intro i o e
        simp only [h5]
        rcases hd i with a | a
        · rw [a]; exact e
        · rw [l3 i o e] at a; cases a
    · rintro ⟨h1, h2, hd, l1, l2, ⟨h3, h4, hd', l3, l4, hA, k1⟩, k2⟩
      let h5 : Hp := fun i => match h4 i with | some o => some o | none => h2 i
      refine ⟨h3, h5, ?_, Hp.le_trans l3 l1, ?_, hA, (sepL_append l r h5).2 ⟨h4, h2, ?_, ?_, ?_, k1, k2⟩⟩
      · intro i
        cases e3 : h3 i with
        | none => exact .inl rfl
        | some o =>
          refine .inr ?_
          have a4 : h4 i = none := by
            rcases hd' i with a | a
            · rw [e3] at a; cases a
            · exact a
          have a2 : h2 i = none := by
            rcases hd i with a | a
            · rw [l3 i o e3] at a; cases a
            · exact a
          simp [h5, a2, a4]
      · intro i o e
        simp only [h5] at e
        cases e4 : h4 i with
        | none => rw [e4] at e; exact l2 i o e
        | some o' => rw [e4] at e; cases e; exact l1 i _ (l4 i _ e4)
      · intro i
        rcases hd i with a | a
        · refine .inl ?_
          cases e4 : h4 i with
          | none => rfl
          | some o => rw [l4 i o e4] at a; cases a
        · exact .inr a
      · intro i o e; simp [h5, e]
      · intro i o e
        simp only [h5]
        rcases hd i with a | a
        · cases e4 : h4 i with
          | none => exact e
          | some o' => rw [l4 i _ e4] at a; cases a
        · rw [e] at a; cases a
theorem sepL_grp {l r : List HProp} {h : Hp} : sepL (sepL l :: r) h ↔ sepL (l ++ r) h := by
  rw [sepL_append]; rfl

/-! parts -/
/-- a block of cells that nobody froze -/
def pt (b : Nat) (l : List Value) : HProp := fun h => ∃ T fr, h b = some (.cells l.toArray T fr) ∧ ∀ i, i < l.length → ¬ (fr.1 ≤ i ∧ i < fr.2)
/-- a block just made -/
def p0 (b : Nat) (l : List Value) : HProp := fun h => ∃ T, h b = some (.cells l.toArray T)
/-- any object -/
def ob (b : Nat) (o : Obj) : HProp := fun h => h b = some o
def pur (φ : Prop) : HProp := fun _ => φ
def exs {α : Type} (A : α → HProp) : HProp := fun h => ∃ x, A x h

/-! worlds -/
structure Env where
  os : Os
  tape : Nat → Question → Nat
  output : Array (Nat × ByteArray)
structure Sat (e : Env) (R : HProp) (w : World) : Prop where
  os : w.os = e.os
  tape : w.tape = e.tape
  output : w.output = e.output
  heap : R (hpOf w)
def Ent (e : Env) (ctx : List HProp) (c : WP) : Prop := ∀ w, Sat e (sepL ctx) w → c w
def Imp (ctx ctx' : List HProp) : Prop := ∀ h, sepL ctx h → sepL ctx' h

section
variable {e : Env} {ctx ctx' : List HProp} {c : WP}
theorem Sat.imp {A B : HProp} {w : World} (h : Sat e A w) (hi : ∀ h, A h → B h) : Sat e B w := ⟨h.os, h.tape, h.output, hi _ h.heap⟩
theorem Ent.imp (hi : Imp ctx ctx') (h : Ent e ctx' c) : Ent e ctx c := fun w hw => h w (hw.imp hi)
theorem Ent.perm (p : ctx.Perm ctx') (h : Ent e ctx' c) : Ent e ctx c := h.imp (sepL_perm p)
theorem Ent.drop {A : HProp} (h : Ent e ctx c) : Ent e (A :: ctx) c := h.imp fun _ => sepL_drop
theorem Ent.pur {φ : Prop} (h : φ → Ent e ctx c) : Ent e (pur φ :: ctx) c := fun w hw => by
  obtain ⟨h1, h2, _, _, l2, hp, r⟩ := hw.heap
  exact h hp w ⟨hw.os, hw.tape, hw.output, sepL_mono l2 r⟩
theorem Ent.exs {α : Type} {A : α → HProp} (h : ∀ x, Ent e (A x :: ctx) c) : Ent e (exs A :: ctx) c := fun w hw => by
  obtain ⟨h1, h2, hd, l1, l2, ⟨x, hp⟩, r⟩ := hw.heap
  exact h x w ⟨hw.os, hw.tape, hw.output, h1, h2, hd, l1, l2, hp, r⟩
theorem Ent.grp {l : List HProp} (h : Ent e (l ++ ctx) c) : Ent e (sepL l :: ctx) c := h.imp fun _ => sepL_grp.1
theorem Ent.ungrp {l : List HProp} (h : Ent e (sepL l :: ctx) c) : Ent e (l ++ ctx) c := h.imp fun _ => sepL_grp.2
/-- opening the first part -/
theorem Ent.open {A : HProp} {l : List HProp} (hA : ∀ h, A h → sepL l h) (h : Ent e (l ++ ctx) c) : Ent e (A :: ctx) c :=
  (Ent.grp h).imp fun _ k => sepL_cons hA (fun _ x => x) k
/-- folding the first parts -/
theorem Ent.fold {A : HProp} {l : List HProp} (hA : ∀ h, sepL l h → A h) (h : Ent e (A :: ctx) c) : Ent e (l ++ ctx) c :=
  (h.imp fun _ k => sepL_cons hA (fun _ x => x) k).ungrp
theorem Imp.refl (l : List HProp) : Imp l l := fun _ h => h
theorem Imp.trans {a b c : List HProp} (h : Imp a b) (k : Imp b c) : Imp a c := fun x y => k x (h x y)
theorem Imp.drop {A : HProp} {l l' : List HProp} (h : Imp l l') : Imp (A :: l) l' := fun _ k => h _ (sepL_drop k)
theorem Imp.cons {A : HProp} {l l' : List HProp} (h : Imp l l') : Imp (A :: l) (A :: l') := fun _ k => sepL_cons (fun _ a => a) h k
theorem Imp.perm {l l' : List HProp} (h : l.Perm l') : Imp l l' := sepL_perm h
theorem Imp.nil (l : List HProp) : Imp l [] := fun _ _ => trivial
theorem Imp.pur {φ : Prop} {l l' : List HProp} (hp : φ) (h : Imp l l') : Imp l (Sl.pur φ :: l') := fun x k =>
  ⟨fun _ => none, x, fun _ => .inl rfl, (fun _ _ e => by cases e), Hp.le_refl x, hp, h x k⟩

theorem Imp.exs {α : Type} {A : α → HProp} {l l' : List HProp} (x : α) (h : Imp l (A x :: l')) : Imp l (Sl.exs A :: l') := fun y k => sepL_cons (fun _ a => ⟨x, a⟩) (fun _ z => z) (h y k)
theorem Imp.grp {l r m : List HProp} (h : Imp m (l ++ r)) : Imp m (sepL l :: r) := fun y k => sepL_grp.2 (h y k)
theorem Imp.fold {A : HProp} {l r m : List HProp} (hA : ∀ h, sepL l h → A h) (h : Imp m (l ++ r)) : Imp m (A :: r) := fun y k => sepL_cons hA (fun _ z => z) (sepL_grp.2 (h y k))

theorem Ent.g1 {A0 : HProp} (h : Ent e (A0 :: ctx) c) : Ent e (sepL [A0] :: ctx) c := Ent.grp (l := [A0]) h
theorem Imp.g1 {A0 : HProp} {l r : List HProp} (h : Imp l (A0 :: r)) : Imp l (sepL [A0] :: r) := fun y k => (sepL_grp (l := [A0])).2 (h y k)
theorem Ent.g2 {A0 A1 : HProp} (h : Ent e (A0 :: A1 :: ctx) c) : Ent e (sepL [A0, A1] :: ctx) c := Ent.grp (l := [A0, A1]) h
theorem Imp.g2 {A0 A1 : HProp} {l r : List HProp} (h : Imp l (A0 :: A1 :: r)) : Imp l (sepL [A0, A1] :: r) := fun y k => (sepL_grp (l := [A0, A1])).2 (h y k)
theorem Ent.g3 {A0 A1 A2 : HProp} (h : Ent e (A0 :: A1 :: A2 :: ctx) c) : Ent e (sepL [A0, A1, A2] :: ctx) c := Ent.grp (l := [A0, A1, A2]) h
theorem Imp.g3 {A0 A1 A2 : HProp} {l r : List HProp} (h : Imp l (A0 :: A1 :: A2 :: r)) : Imp l (sepL [A0, A1, A2] :: r) := fun y k => (sepL_grp (l := [A0, A1, A2])).2 (h y k)
theorem Ent.g4 {A0 A1 A2 A3 : HProp} (h : Ent e (A0 :: A1 :: A2 :: A3 :: ctx) c) : Ent e (sepL [A0, A1, A2, A3] :: ctx) c := Ent.grp (l := [A0, A1, A2, A3]) h
theorem Imp.g4 {A0 A1 A2 A3 : HProp} {l r : List HProp} (h : Imp l (A0 :: A1 :: A2 :: A3 :: r)) : Imp l (sepL [A0, A1, A2, A3] :: r) := fun y k => (sepL_grp (l := [A0, A1, A2, A3])).2 (h y k)
theorem Ent.g5 {A0 A1 A2 A3 A4 : HProp} (h : Ent e (A0 :: A1 :: A2 :: A3 :: A4 :: ctx) c) : Ent e (sepL [A0, A1, A2, A3, A4] :: ctx) c := Ent.grp (l := [A0, A1, A2, A3, A4]) h
theorem Imp.g5 {A0 A1 A2 A3 A4 : HProp} {l r : List HProp} (h : Imp l (A0 :: A1 :: A2 :: A3 :: A4 :: r)) : Imp l (sepL [A0, A1, A2, A3, A4] :: r) := fun y k => (sepL_grp (l := [A0, A1, A2, A3, A4])).2 (h y k)
theorem Ent.g6 {A0 A1 A2 A3 A4 A5 : HProp} (h : Ent e (A0 :: A1 :: A2 :: A3 :: A4 :: A5 :: ctx) c) : Ent e (sepL [A0, A1, A2, A3, A4, A5] :: ctx) c := Ent.grp (l := [A0, A1, A2, A3, A4, A5]) h
theorem Imp.g6 {A0 A1 A2 A3 A4 A5 : HProp} {l r : List HProp} (h : Imp l (A0 :: A1 :: A2 :: A3 :: A4 :: A5 :: r)) : Imp l (sepL [A0, A1, A2, A3, A4, A5] :: r) := fun y k => (sepL_grp (l := [A0, A1, A2, A3, A4, A5])).2 (h y k)
theorem Ent.g7 {A0 A1 A2 A3 A4 A5 A6 : HProp} (h : Ent e (A0 :: A1 :: A2 :: A3 :: A4 :: A5 :: A6 :: ctx) c) : Ent e (sepL [A0, A1, A2, A3, A4, A5, A6] :: ctx) c := Ent.grp (l := [A0, A1, A2, A3, A4, A5, A6]) h
theorem Imp.g7 {A0 A1 A2 A3 A4 A5 A6 : HProp} {l r : List HProp} (h : Imp l (A0 :: A1 :: A2 :: A3 :: A4 :: A5 :: A6 :: r)) : Imp l (sepL [A0, A1, A2, A3, A4, A5, A6] :: r) := fun y k => (sepL_grp (l := [A0, A1, A2, A3, A4, A5, A6])).2 (h y k)
theorem Ent.g8 {A0 A1 A2 A3 A4 A5 A6 A7 : HProp} (h : Ent e (A0 :: A1 :: A2 :: A3 :: A4 :: A5 :: A6 :: A7 :: ctx) c) : Ent e (sepL [A0, A1, A2, A3, A4, A5, A6, A7] :: ctx) c := Ent.grp (l := [A0, A1, A2, A3, A4, A5, A6, A7]) h
theorem Imp.g8 {A0 A1 A2 A3 A4 A5 A6 A7 : HProp} {l r : List HProp} (h : Imp l (A0 :: A1 :: A2 :: A3 :: A4 :: A5 :: A6 :: A7 :: r)) : Imp l (sepL [A0, A1, A2, A3, A4, A5, A6, A7] :: r) := fun y k => (sepL_grp (l := [A0, A1, A2, A3, A4, A5, A6, A7])).2 (h y k)
theorem Ent.g9 {A0 A1 A2 A3 A4 A5 A6 A7 A8 : HProp} (h : Ent e (A0 :: A1 :: A2 :: A3 :: A4 :: A5 :: A6 :: A7 :: A8 :: ctx) c) : Ent e (sepL [A0, A1, A2, A3, A4, A5, A6, A7, A8] :: ctx) c := Ent.grp (l := [A0, A1, A2, A3, A4, A5, A6, A7, A8]) h
theorem Imp.g9 {A0 A1 A2 A3 A4 A5 A6 A7 A8 : HProp} {l r : List HProp} (h : Imp l (A0 :: A1 :: A2 :: A3 :: A4 :: A5 :: A6 :: A7 :: A8 :: r)) : Imp l (sepL [A0, A1, A2, A3, A4, A5, A6, A7, A8] :: r) := fun y k => (sepL_grp (l := [A0, A1, A2, A3, A4, A5, A6, A7, A8])).2 (h y k)
theorem Ent.g10 {A0 A1 A2 A3 A4 A5 A6 A7 A8 A9 : HProp} (h : Ent e (A0 :: A1 :: A2 :: A3 :: A4 :: A5 :: A6 :: A7 :: A8 :: A9 :: ctx) c) : Ent e (sepL [A0, A1, A2, A3, A4, A5, A6, A7, A8, A9] :: ctx) c := Ent.grp (l := [A0, A1, A2, A3, A4, A5, A6, A7, A8, A9]) h
theorem Imp.g10 {A0 A1 A2 A3 A4 A5 A6 A7 A8 A9 : HProp} {l r : List HProp} (h : Imp l (A0 :: A1 :: A2 :: A3 :: A4 :: A5 :: A6 :: A7 :: A8 :: A9 :: r)) : Imp l (sepL [A0, A1, A2, A3, A4, A5, A6, A7, A8, A9] :: r) := fun y k => (sepL_grp (l := [A0, A1, A2, A3, A4, A5, A6, A7, A8, A9])).2 (h y k)

/-! finding a part -/
/-- 'A' is among the parts -/
inductive Has : List HProp → HProp → Prop
  | hd {A : HProp} {l : List HProp} : Has (A :: l) A
  | tl {A B : HProp} {l : List HProp} : Has l A → Has (B :: l) A
/-- 'l' is 'A' and 'r' -/
inductive Pick : List HProp → HProp → List HProp → Prop
  | hd {A : HProp} {l : List HProp} : Pick (A :: l) A l
  | tl {A B : HProp} {l r : List HProp} : Pick l A r → Pick (B :: l) A (B :: r)
/-- 'l' with 'B' in the place of 'A' -/
inductive Upd : List HProp → HProp → HProp → List HProp → Prop
  | hd {A B : HProp} {l : List HProp} : Upd (A :: l) A B (B :: l)
  | tl {A B C : HProp} {l r : List HProp} : Upd l A B r → Upd (C :: l) A B (C :: r)
theorem Pick.perm {l : List HProp} {A : HProp} {r : List HProp} (h : Pick l A r) : l.Perm (A :: r) := by
  induction h with
  | hd => exact .refl _
  | tl _ ih => exact (ih.cons _).trans (.swap _ _ _)
theorem Has.pick {l : List HProp} {A : HProp} (h : Has l A) : ∃ r, Pick l A r := by
  induction h with
  | hd => exact ⟨_, .hd⟩
  | tl _ ih => obtain ⟨r, hr⟩ := ih; exact ⟨_, .tl hr⟩
theorem Upd.pick {l : List HProp} {A B : HProp} {r : List HProp} (h : Upd l A B r) : ∃ s, Pick l A s ∧ r.Perm (B :: s) := by
  induction h with
  | hd => exact ⟨_, .hd, .refl _⟩
  | tl _ ih => obtain ⟨s, h1, h2⟩ := ih; exact ⟨_, .tl h1, (h2.cons _).trans (.swap _ _ _)⟩
theorem Ent.pick {A : HProp} (hp : Pick ctx A ctx') (h : Ent e (A :: ctx') c) : Ent e ctx c := h.perm hp.perm
theorem Imp.pick {A : HProp} {l r : List HProp} {l' : List HProp} (hp : Pick l A r) (h : Imp r l') : Imp l (A :: l') := (Imp.perm hp.perm).trans h.cons
theorem Has.at_ {A : HProp} {w : World} (hh : Has ctx A) (hs : Sat e (sepL ctx) w) : ∃ h, Hp.le h (hpOf w) ∧ A h := by
  obtain ⟨r, hr⟩ := hh.pick
  obtain ⟨h1, _, _, l1, _, hA, _⟩ := sepL_perm hr.perm _ hs.heap
  exact ⟨h1, l1, hA⟩
theorem Has.pt {b : Nat} {l : List Value} {w : World} (hh : Has ctx (pt b l)) (hs : Sat e (sepL ctx) w) :
    ∃ T fr, w.heap[b]? = some (.cells l.toArray T fr) ∧ ∀ i, i < l.length → ¬ (fr.1 ≤ i ∧ i < fr.2) := by
  obtain ⟨h, hl, T, fr, hb, hf⟩ := hh.at_ hs
  exact ⟨T, fr, hl _ _ hb, hf⟩
theorem Has.ob {b : Nat} {o : Obj} {w : World} (hh : Has ctx (ob b o)) (hs : Sat e (sepL ctx) w) : w.heap[b]? = some o := by
  obtain ⟨h, hl, hb⟩ := hh.at_ hs
  exact hl _ _ hb

/-! what becomes of a world -/
theorem Sat.drawn {R : HProp} {w : World} (h : Sat e R w) (n : Nat) : Sat e R { w with drawn := n } := ⟨h.os, h.tape, h.output, h.heap⟩
theorem Sat.alloc {w : World} (h : Sat e (sepL ctx) w) (o : Obj) : Sat e (sepL (Sl.ob w.heap.size o :: ctx)) (w.alloc o) := by
  refine ⟨h.os, h.tape, h.output, fun i => if i = w.heap.size then some o else none, hpOf w, ?_, ?_, ?_, by simp [Sl.ob], h.heap⟩
  · intro i
    by_cases hi : i = w.heap.size
    · subst hi; exact .inr (by simp [hpOf])
    · exact .inl (by simp [hi])
  · intro i o' ho
    by_cases hi : i = w.heap.size
    · subst hi; simp only [if_true] at ho; cases ho; show (w.heap.push o)[w.heap.size]? = some o; simp
    · simp [hi] at ho
  · intro i o' ho
    have hlt : i < w.heap.size := (Array.getElem?_eq_some_iff.1 ho).1
    show (w.heap.push o)[i]? = some o'
    rw [Array.getElem?_push, if_neg (by omega)]; exact ho
theorem ob_pt {b : Nat} {l : List Value} {T : TypeId} (h : Hp) (k : Sl.ob b (.cells l.toArray T) h) : Sl.pt b l h := ⟨T, (0, 0), k, fun _ _ => by simp⟩
theorem Sat.new {w : World} (h : Sat e (sepL ctx) w) (l : List Value) (T : TypeId) : Sat e (sepL (Sl.pt w.heap.size l :: ctx)) (w.alloc (.cells l.toArray T)) :=
  (h.alloc _).imp fun _ k => sepL_cons ob_pt (fun _ x => x) k
theorem p0_pt {b : Nat} {l : List Value} (h : Hp) (k : Sl.p0 b l h) : Sl.pt b l h := by
  obtain ⟨T, k⟩ := k
  exact ob_pt h k
theorem Sat.new0 {w : World} (h : Sat e (sepL ctx) w) (l : List Value) (T : TypeId) : Sat e (sepL (Sl.p0 w.heap.size l :: ctx)) (w.alloc (.cells l.toArray T)) :=
  (h.alloc _).imp fun _ k => sepL_cons (fun _ k => ⟨T, k⟩) (fun _ x => x) k
/-- one block turns -/
theorem Sat.turn {A B : HProp} {w w' : World} {b : Nat} {o o' : Obj} (h : Sat e (sepL (A :: ctx)) w) (hA : ∀ h, A h → h b = some o) (hB : ∀ h, h b = some o' → B h)
    (h1 : w'.os = w.os) (h2 : w'.tape = w.tape) (h3 : w'.output = w.output) (hb : w'.heap[b]? = some o') (hr : ∀ i, i ≠ b → w'.heap[i]? = w.heap[i]?) : Sat e (sepL (B :: ctx)) w' := by
  obtain ⟨g1, g2, hd, l1, l2, a, r⟩ := h.heap
  have hg := hA _ a
  refine ⟨h1.trans h.os, h2.trans h.tape, h3.trans h.output, fun i => if i = b then some o' else none, g2, ?_, ?_, ?_, hB _ (by simp), r⟩
  · intro i
    by_cases hi : i = b
    · subst hi
      refine .inr ?_
      rcases hd i with x | x
      · rw [hg] at x; cases x
      · exact x
    · exact .inl (by simp [hi])
  · intro i x hx
    by_cases hi : i = b
    · subst hi; simp only [if_true] at hx; cases hx; exact hb
    · simp [hi] at hx
  · intro i x hx
    have hi : i ≠ b := by
      intro e; subst e
      rcases hd i with y | y
      · rw [hg] at y; cases y
      · rw [hx] at y; cases y
    show w'.heap[i]? = some x
    rw [hr i hi]; exact l2 i x hx
theorem Sat.setRow {b : Nat} {l l' : List Value} {w : World} (hl : l'.length = l.length) (h : Sat e (sepL (Sl.pt b l :: ctx)) w) : Sat e (sepL (Sl.pt b l' :: ctx)) (w.setRow b l'.toArray) := by
  obtain ⟨T, fr, hb, hf⟩ := Has.pt .hd h
  obtain ⟨g1, g2, hd, l1, l2, ⟨T', fr', hb', hf'⟩, r⟩ := h.heap
  have := l1 _ _ hb'
  have he : hpOf w b = w.heap[b]? := rfl
  rw [he, hb] at this
  cases this
  exact Sat.turn (A := fun h => h b = some (.cells l.toArray T fr)) (w := w) ⟨h.os, h.tape, h.output, g1, g2, hd, l1, l2, hb', r⟩ (fun _ k => k)
    (fun _ k => ⟨T, fr, k, fun i hi => hf i (hl ▸ hi)⟩) rfl rfl rfl (setRow_heap w b _ _ T fr hb) (fun i hi => setRow_other w b i _ hi)
end
end Go.Proofs.YtfofnagocedlgaaDoor.Sl
end
section
/-
  THE SECOND LAYER's RULES: one for each operation.
-/
set_option maxRecDepth 100000
set_option linter.unusedVariables false
set_option linter.unusedSimpArgs false
namespace Go.Proofs.YtfofnagocedlgaaDoor.Sl
open Go Sh

/-! ## the frame of a proof -/
section
variable {e : Env} {ctx ctx' : List HProp} {c : WP}
theorem Ent.condT {b : Bool} {x y : WP} (hb : b = true) (h : Ent e ctx x) : Ent e ctx (condK b x y) := by subst hb; exact h
theorem Ent.condF {b : Bool} {x y : WP} (hb : b = false) (h : Ent e ctx y) : Ent e ctx (condK b x y) := by subst hb; exact h
theorem Ent.cond {b : Bool} {x y : WP} (h : b = true → Ent e ctx x) (k : b = false → Ent e ctx y) : Ent e ctx (condK b x y) := by
  cases b
  · exact k rfl
  · exact h rfl
def inR (k : IntKind) (n : Int) : Prop := k.min ≤ n ∧ n ≤ k.max
theorem wrap_in {k : IntKind} {n : Int} (h : inR k n) : k.wrap n = n := by
  obtain ⟨h1, h2⟩ := h
  cases k <;> simp [IntKind.min, IntKind.max, IntKind.signed, IntKind.bits] at h1 h2 <;> simp [IntKind.wrap, IntKind.signed, IntKind.bits] <;> omega
theorem Ent.ar {k : IntKind} {n : Int} {f : Int → WP} (hn : inR k n) (h : Ent e ctx (f n)) : Ent e ctx (ArK k n f) := by
  unfold ArK; rw [wrap_in hn]; exact h
theorem Ent.arw {k : IntKind} {n : Int} {f : Int → WP} (h : Ent e ctx (f (k.wrap n))) : Ent e ctx (ArK k n f) := h
theorem Ent.nil {a : Addr} (h : Ent e ctx c) : Ent e ctx (NilK (.pointer (some a)) c) := fun w hw => ⟨rfl, h w hw⟩
theorem Ent.nilF {f : FuncId} {a b : Array Value} (h : Ent e ctx c) : Ent e ctx (NilK (.func (.func f) a b) c) := fun w hw => ⟨rfl, h w hw⟩
theorem Ent.join {ts : List (Nat × Kd)} {m : AS ts → WP} {k : AS ts} (h : Ent e ctx (m k)) : Ent e ctx (joinK ts m k) := h
theorem Ent.join0 {m : WP → WP} {k : WP} (J : List HProp) (hk : Ent e J k) (hm : ∀ k' : WP, Ent e J k' → Ent e ctx (m k')) : Ent e ctx (joinK [] m k) := hm k hk
theorem Ent.join1 {i : Nat} {kd : Kd} {m : (kd.T → WP) → WP} {k : kd.T → WP} (J : kd.T → List HProp) (hk : ∀ x, Ent e (J x) (k x))
    (hm : ∀ k' : kd.T → WP, (∀ x, Ent e (J x) (k' x)) → Ent e ctx (m k')) : Ent e ctx (joinK [(i, kd)] m k) := hm k hk
theorem Ent.join2 {i i2 : Nat} {kd kd2 : Kd} {m : (kd.T → kd2.T → WP) → WP} {k : kd.T → kd2.T → WP} (J : kd.T → kd2.T → List HProp) (hk : ∀ x y, Ent e (J x y) (k x y))
    (hm : ∀ k' : kd.T → kd2.T → WP, (∀ x y, Ent e (J x y) (k' x y)) → Ent e ctx (m k')) : Ent e ctx (joinK [(i, kd), (i2, kd2)] m k) := hm k hk
theorem Ent.join3 {i i2 i3 : Nat} {kd kd2 kd3 : Kd} {m : (kd.T → kd2.T → kd3.T → WP) → WP} {k : kd.T → kd2.T → kd3.T → WP} (J : kd.T → kd2.T → kd3.T → List HProp) (hk : ∀ x y z, Ent e (J x y z) (k x y z))
    (hm : ∀ k' : kd.T → kd2.T → kd3.T → WP, (∀ x y z, Ent e (J x y z) (k' x y z)) → Ent e ctx (m k')) : Ent e ctx (joinK [(i, kd), (i2, kd2), (i3, kd3)] m k) := hm k hk
theorem Ent.and {S : WP} (hS : ∀ w, Sat e (sepL ctx) w → S w) (h : Ent e ctx c) : Ent e ctx (andK S c) := fun w hw => ⟨hS w hw, h w hw⟩
theorem Ent.andI {R : List HProp} (hS : Imp ctx R) (h : Ent e ctx c) : Ent e ctx (andK (Sat e (sepL R)) c) := fun w hw => ⟨hw.imp hS, h w hw⟩
theorem Ent.draw {f : WP → WP} (R : List HProp) (hR : Imp ctx R) (h : Ent e ctx (f (Sat e (sepL R)))) : Ent e ctx (DrawK f) := fun w hw =>
  ⟨Sat e (sepL R), (hw.imp hR).drawn _, h _ (hw.drawn _)⟩
theorem Ent.draw0 {f : WP → WP} (h : Ent e ctx (f (Sat e (sepL ctx)))) : Ent e ctx (DrawK f) := Ent.draw ctx (Imp.refl _) h
/-- a loop: 'I n ..' holds where a round begins, n more rounds ahead at most -/
theorem Ent.loop0  {body : (WP) → WP} (I : Nat → List HProp) (n : Nat) (h0 : Imp ctx (I n))
    (hb : ∀ n (K : WP), (∀ m, m < n → Ent e (I m) (K)) → Ent e (I n) (body K)) :
    Ent e ctx (loopK [] (fun j => j) body) := fun _ hw =>
  ⟨fun n => Sat e (sepL (I n)), ⟨n, hw.imp h0⟩, fun n w h => hb n _ (fun m hm _ h => ⟨⟨m, hm⟩, h⟩) w h⟩
theorem Ent.loop1 {i0 : Nat} {k0 : Kd} {x0 : k0.T} {body : (k0.T → WP) → k0.T → WP} (I : Nat → k0.T → List HProp) (n : Nat) (h0 : Imp ctx (I n x0))
    (hb : ∀ n (K : k0.T → WP), (∀ m, m < n → ∀ y0, Ent e (I m y0) (K y0)) → ∀ y0, Ent e (I n y0) (body K y0)) :
    Ent e ctx (loopK [(i0, k0)] (fun j => j x0) body) := fun _ hw =>
  ⟨fun n y0 => Sat e (sepL (I n y0)), ⟨n, hw.imp h0⟩, fun n y0 w h => hb n _ (fun m hm y0 _ h => ⟨⟨m, hm⟩, h⟩) y0 w h⟩
theorem Ent.loop2 {i0 : Nat} {k0 : Kd} {x0 : k0.T} {i1 : Nat} {k1 : Kd} {x1 : k1.T} {body : (k0.T → k1.T → WP) → k0.T → k1.T → WP} (I : Nat → k0.T → k1.T → List HProp) (n : Nat) (h0 : Imp ctx (I n x0 x1))
    (hb : ∀ n (K : k0.T → k1.T → WP), (∀ m, m < n → ∀ y0 y1, Ent e (I m y0 y1) (K y0 y1)) → ∀ y0 y1, Ent e (I n y0 y1) (body K y0 y1)) :
    Ent e ctx (loopK [(i0, k0), (i1, k1)] (fun j => j x0 x1) body) := fun _ hw =>
  ⟨fun n y0 y1 => Sat e (sepL (I n y0 y1)), ⟨n, hw.imp h0⟩, fun n y0 y1 w h => hb n _ (fun m hm y0 y1 _ h => ⟨⟨m, hm⟩, h⟩) y0 y1 w h⟩
theorem Ent.loop3 {i0 : Nat} {k0 : Kd} {x0 : k0.T} {i1 : Nat} {k1 : Kd} {x1 : k1.T} {i2 : Nat} {k2 : Kd} {x2 : k2.T} {body : (k0.T → k1.T → k2.T → WP) → k0.T → k1.T → k2.T → WP} (I : Nat → k0.T → k1.T → k2.T → List HProp) (n : Nat) (h0 : Imp ctx (I n x0 x1 x2))
    (hb : ∀ n (K : k0.T → k1.T → k2.T → WP), (∀ m, m < n → ∀ y0 y1 y2, Ent e (I m y0 y1 y2) (K y0 y1 y2)) → ∀ y0 y1 y2, Ent e (I n y0 y1 y2) (body K y0 y1 y2)) :
    Ent e ctx (loopK [(i0, k0), (i1, k1), (i2, k2)] (fun j => j x0 x1 x2) body) := fun _ hw =>
  ⟨fun n y0 y1 y2 => Sat e (sepL (I n y0 y1 y2)), ⟨n, hw.imp h0⟩, fun n y0 y1 y2 w h => hb n _ (fun m hm y0 y1 y2 _ h => ⟨⟨m, hm⟩, h⟩) y0 y1 y2 w h⟩
theorem Ent.loop4 {i0 : Nat} {k0 : Kd} {x0 : k0.T} {i1 : Nat} {k1 : Kd} {x1 : k1.T} {i2 : Nat} {k2 : Kd} {x2 : k2.T} {i3 : Nat} {k3 : Kd} {x3 : k3.T} {body : (k0.T → k1.T → k2.T → k3.T → WP) → k0.T → k1.T → k2.T → k3.T → WP} (I : Nat → k0.T → k1.T → k2.T → k3.T → List HProp) (n : Nat) (h0 : Imp ctx (I n x0 x1 x2 x3))
    (hb : ∀ n (K : k0.T → k1.T → k2.T → k3.T → WP), (∀ m, m < n → ∀ y0 y1 y2 y3, Ent e (I m y0 y1 y2 y3) (K y0 y1 y2 y3)) → ∀ y0 y1 y2 y3, Ent e (I n y0 y1 y2 y3) (body K y0 y1 y2 y3)) :
    Ent e ctx (loopK [(i0, k0), (i1, k1), (i2, k2), (i3, k3)] (fun j => j x0 x1 x2 x3) body) := fun _ hw =>
  ⟨fun n y0 y1 y2 y3 => Sat e (sepL (I n y0 y1 y2 y3)), ⟨n, hw.imp h0⟩, fun n y0 y1 y2 y3 w h => hb n _ (fun m hm y0 y1 y2 y3 _ h => ⟨⟨m, hm⟩, h⟩) y0 y1 y2 y3 w h⟩
theorem Ent.loop5 {i0 : Nat} {k0 : Kd} {x0 : k0.T} {i1 : Nat} {k1 : Kd} {x1 : k1.T} {i2 : Nat} {k2 : Kd} {x2 : k2.T} {i3 : Nat} {k3 : Kd} {x3 : k3.T} {i4 : Nat} {k4 : Kd} {x4 : k4.T} {body : (k0.T → k1.T → k2.T → k3.T → k4.T → WP) → k0.T → k1.T → k2.T → k3.T → k4.T → WP} (I : Nat → k0.T → k1.T → k2.T → k3.T → k4.T → List HProp) (n : Nat) (h0 : Imp ctx (I n x0 x1 x2 x3 x4))
    (hb : ∀ n (K : k0.T → k1.T → k2.T → k3.T → k4.T → WP), (∀ m, m < n → ∀ y0 y1 y2 y3 y4, Ent e (I m y0 y1 y2 y3 y4) (K y0 y1 y2 y3 y4)) → ∀ y0 y1 y2 y3 y4, Ent e (I n y0 y1 y2 y3 y4) (body K y0 y1 y2 y3 y4)) :
    Ent e ctx (loopK [(i0, k0), (i1, k1), (i2, k2), (i3, k3), (i4, k4)] (fun j => j x0 x1 x2 x3 x4) body) := fun _ hw =>
  ⟨fun n y0 y1 y2 y3 y4 => Sat e (sepL (I n y0 y1 y2 y3 y4)), ⟨n, hw.imp h0⟩, fun n y0 y1 y2 y3 y4 w h => hb n _ (fun m hm y0 y1 y2 y3 y4 _ h => ⟨⟨m, hm⟩, h⟩) y0 y1 y2 y3 y4 w h⟩
theorem Ent.loop6 {i0 : Nat} {k0 : Kd} {x0 : k0.T} {i1 : Nat} {k1 : Kd} {x1 : k1.T} {i2 : Nat} {k2 : Kd} {x2 : k2.T} {i3 : Nat} {k3 : Kd} {x3 : k3.T} {i4 : Nat} {k4 : Kd} {x4 : k4.T} {i5 : Nat} {k5 : Kd} {x5 : k5.T} {body : (k0.T → k1.T → k2.T → k3.T → k4.T → k5.T → WP) → k0.T → k1.T → k2.T → k3.T → k4.T → k5.T → WP} (I : Nat → k0.T → k1.T → k2.T → k3.T → k4.T → k5.T → List HProp) (n : Nat) (h0 : Imp ctx (I n x0 x1 x2 x3 x4 x5))
    (hb : ∀ n (K : k0.T → k1.T → k2.T → k3.T → k4.T → k5.T → WP), (∀ m, m < n → ∀ y0 y1 y2 y3 y4 y5, Ent e (I m y0 y1 y2 y3 y4 y5) (K y0 y1 y2 y3 y4 y5)) → ∀ y0 y1 y2 y3 y4 y5, Ent e (I n y0 y1 y2 y3 y4 y5) (body K y0 y1 y2 y3 y4 y5)) :
    Ent e ctx (loopK [(i0, k0), (i1, k1), (i2, k2), (i3, k3), (i4, k4), (i5, k5)] (fun j => j x0 x1 x2 x3 x4 x5) body) := fun _ hw =>
  ⟨fun n y0 y1 y2 y3 y4 y5 => Sat e (sepL (I n y0 y1 y2 y3 y4 y5)), ⟨n, hw.imp h0⟩, fun n y0 y1 y2 y3 y4 y5 w h => hb n _ (fun m hm y0 y1 y2 y3 y4 y5 _ h => ⟨⟨m, hm⟩, h⟩) y0 y1 y2 y3 y4 y5 w h⟩
theorem Ent.loop7 {i0 : Nat} {k0 : Kd} {x0 : k0.T} {i1 : Nat} {k1 : Kd} {x1 : k1.T} {i2 : Nat} {k2 : Kd} {x2 : k2.T} {i3 : Nat} {k3 : Kd} {x3 : k3.T} {i4 : Nat} {k4 : Kd} {x4 : k4.T} {i5 : Nat} {k5 : Kd} {x5 : k5.T} {i6 : Nat} {k6 : Kd} {x6 : k6.T} {body : (k0.T → k1.T → k2.T → k3.T → k4.T → k5.T → k6.T → WP) → k0.T → k1.T → k2.T → k3.T → k4.T → k5.T → k6.T → WP} (I : Nat → k0.T → k1.T → k2.T → k3.T → k4.T → k5.T → k6.T → List HProp) (n : Nat) (h0 : Imp ctx (I n x0 x1 x2 x3 x4 x5 x6))
    (hb : ∀ n (K : k0.T → k1.T → k2.T → k3.T → k4.T → k5.T → k6.T → WP), (∀ m, m < n → ∀ y0 y1 y2 y3 y4 y5 y6, Ent e (I m y0 y1 y2 y3 y4 y5 y6) (K y0 y1 y2 y3 y4 y5 y6)) → ∀ y0 y1 y2 y3 y4 y5 y6, Ent e (I n y0 y1 y2 y3 y4 y5 y6) (body K y0 y1 y2 y3 y4 y5 y6)) :
    Ent e ctx (loopK [(i0, k0), (i1, k1), (i2, k2), (i3, k3), (i4, k4), (i5, k5), (i6, k6)] (fun j => j x0 x1 x2 x3 x4 x5 x6) body) := fun _ hw =>
  ⟨fun n y0 y1 y2 y3 y4 y5 y6 => Sat e (sepL (I n y0 y1 y2 y3 y4 y5 y6)), ⟨n, hw.imp h0⟩, fun n y0 y1 y2 y3 y4 y5 y6 w h => hb n _ (fun m hm y0 y1 y2 y3 y4 y5 y6 _ h => ⟨⟨m, hm⟩, h⟩) y0 y1 y2 y3 y4 y5 y6 w h⟩
theorem Ent.loop8 {i0 : Nat} {k0 : Kd} {x0 : k0.T} {i1 : Nat} {k1 : Kd} {x1 : k1.T} {i2 : Nat} {k2 : Kd} {x2 : k2.T} {i3 : Nat} {k3 : Kd} {x3 : k3.T} {i4 : Nat} {k4 : Kd} {x4 : k4.T} {i5 : Nat} {k5 : Kd} {x5 : k5.T} {i6 : Nat} {k6 : Kd} {x6 : k6.T} {i7 : Nat} {k7 : Kd} {x7 : k7.T} {body : (k0.T → k1.T → k2.T → k3.T → k4.T → k5.T → k6.T → k7.T → WP) → k0.T → k1.T → k2.T → k3.T → k4.T → k5.T → k6.T → k7.T → WP} (I : Nat → k0.T → k1.T → k2.T → k3.T → k4.T → k5.T → k6.T → k7.T → List HProp) (n : Nat) (h0 : Imp ctx (I n x0 x1 x2 x3 x4 x5 x6 x7))
    (hb : ∀ n (K : k0.T → k1.T → k2.T → k3.T → k4.T → k5.T → k6.T → k7.T → WP), (∀ m, m < n → ∀ y0 y1 y2 y3 y4 y5 y6 y7, Ent e (I m y0 y1 y2 y3 y4 y5 y6 y7) (K y0 y1 y2 y3 y4 y5 y6 y7)) → ∀ y0 y1 y2 y3 y4 y5 y6 y7, Ent e (I n y0 y1 y2 y3 y4 y5 y6 y7) (body K y0 y1 y2 y3 y4 y5 y6 y7)) :
    Ent e ctx (loopK [(i0, k0), (i1, k1), (i2, k2), (i3, k3), (i4, k4), (i5, k5), (i6, k6), (i7, k7)] (fun j => j x0 x1 x2 x3 x4 x5 x6 x7) body) := fun _ hw =>
  ⟨fun n y0 y1 y2 y3 y4 y5 y6 y7 => Sat e (sepL (I n y0 y1 y2 y3 y4 y5 y6 y7)), ⟨n, hw.imp h0⟩, fun n y0 y1 y2 y3 y4 y5 y6 y7 w h => hb n _ (fun m hm y0 y1 y2 y3 y4 y5 y6 y7 _ h => ⟨⟨m, hm⟩, h⟩) y0 y1 y2 y3 y4 y5 y6 y7 w h⟩
end
end Go.Proofs.YtfofnagocedlgaaDoor.Sl
end
