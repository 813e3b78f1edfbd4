/-
  Tables of types, schedules, what start-up lays.
-/
import Derived.Test.YtnkobcokjalmoaaGreatDoorBxZ
import Derived.Test.YtnkobcokjalmoaaGreatDoorProg
import Derived.Shelf.GgClosure.StringsIndexFuncTop
import Derived.Shelf.Strings.FuncGrows
import Derived.Shelf.SlMaps.Clone
import Derived.Ground.GgwProg
import Derived.Ground.SlmcProg
import Derived.Ground.NamesProg
import Derived.Shelf.SlIter.Nil
import Derived.Shelf.SortM.Plain
import Derived.Shelf.SortM.SortNone
import Derived.Shelf.Small.Bits
import Derived.Ground.GgzProg
import Derived.Ground.SlgmProg
namespace Go.Proofs.YtnkobcokjalmoaaGreatDoor.Ax
def tt : TT := [
 (0, { k := .other, size := 1, bytes := 0, zero := some (.tuple ⟨[]⟩) }),
 (2, { k := .int .i64, size := 1, bytes := 8, zero := some (.int .i64 (0)) }),
 (3, { k := .int .i64, size := 1, bytes := 8, zero := some (.int .i64 (0)) }),
 (4, { k := .bool, size := 1, bytes := 1, zero := some (.bool false) }),
 (5, { k := .int .u8, size := 1, bytes := 1, zero := some (.int .u8 (0)) }),
 (9, { k := .str, size := 1, bytes := 16, zero := some (.string ⟨⟨[]⟩⟩) }),
 (20, { k := .ifc, size := 1, bytes := 16, zero := some .nilIface }),
 (21, { k := .int .i32, size := 1, bytes := 4, zero := some (.int .i32 (0)) }),
 (22, { k := .int .u32, size := 1, bytes := 4, zero := some (.int .u32 (0)) }),
 (23, { k := .other, size := 1, bytes := 0, zero := some (.tuple ⟨[.int .u32 (0), .bool false]⟩) }),
 (26, { k := .other, size := 1, bytes := 8, zero := some .nilFunc }),
 (28, { k := .sl 55, size := 1, bytes := 24, zero := some (.slice none 0 0) }),
 (29, { k := .int .u16, size := 1, bytes := 2, zero := some (.int .u16 (0)) }),
 (31, { k := .ptr 149, size := 1, bytes := 8, zero := some (.pointer none) }),
 (32, { k := .int .i64, size := 1, bytes := 8, zero := some (.int .i64 (0)) }),
 (33, { k := .other, size := 1, bytes := 0, zero := some (.tuple ⟨[.pointer none, .int .i64 (0)]⟩) }),
 (35, { k := .ptr 152, size := 1, bytes := 8, zero := some (.pointer none) }),
 (36, { k := .sl 53, size := 1, bytes := 24, zero := some (.slice none 0 0) }),
 (37, { k := .other, size := 1, bytes := 0, zero := some (.tuple ⟨[.pointer none, .slice none 0 0]⟩) }),
 (39, { k := .other, size := 1, bytes := 0, zero := some (.tuple ⟨[.pointer none, .int .i64 (0)]⟩) }),
 (41, { k := .int .u64, size := 1, bytes := 8, zero := some (.int .u64 (0)) }),
 (43, { k := .st [(0, 22), (1, 22), (2, 22), (3, 41), (4, 41)], size := 5, bytes := 32, zero := some (.agg ⟨[.int .u32 (0), .int .u32 (0), .int .u32 (0), .int .u64 (0), .int .u64 (0)]⟩), eq := true }),
 (45, { k := .sl 60, size := 1, bytes := 24, zero := some (.slice none 0 0) }),
 (46, { k := .sl 3, size := 1, bytes := 24, zero := some (.slice none 0 0) }),
 (48, { k := .st [(0, 22), (1, 45), (2, 46), (3, 3), (4, 32)], size := 5, bytes := 72, zero := some (.agg ⟨[.int .u32 (0), .slice none 0 0, .slice none 0 0, .int .i64 (0), .int .i64 (0)]⟩), eq := true }),
 (49, { k := .other, size := 1, bytes := 0, zero := some (.tuple ⟨[.agg ⟨[.int .u32 (0), .slice none 0 0, .slice none 0 0, .int .i64 (0), .int .i64 (0)]⟩, .int .i64 (0)]⟩) }),
 (51, { k := .sl 5, size := 1, bytes := 24, zero := some (.slice none 0 0) }),
 (53, { k := .st [(0, 22), (1, 22)], size := 2, bytes := 8, zero := some (.agg ⟨[.int .u32 (0), .int .u32 (0)]⟩), eq := true }),
 (55, { k := .st [(0, 41), (1, 3), (2, 51), (3, 51), (4, 53)], size := 6, bytes := 72, zero := some (.agg ⟨[.int .u64 (0), .int .i64 (0), .slice none 0 0, .slice none 0 0, .int .u32 (0), .int .u32 (0)]⟩), eq := true }),
 (56, { k := .other, size := 1, bytes := 0, zero := some (.tuple ⟨[.agg ⟨[.int .u64 (0), .int .i64 (0), .slice none 0 0, .slice none 0 0, .int .u32 (0), .int .u32 (0)]⟩, .int .i64 (0)]⟩) }),
 (60, { k := .st [(0, 53), (2, 3), (3, 55)], size := 9, bytes := 88, zero := some (.agg ⟨[.int .u32 (0), .int .u32 (0), .int .i64 (0), .int .u64 (0), .int .i64 (0), .slice none 0 0, .slice none 0 0, .int .u32 (0), .int .u32 (0)]⟩), eq := true }),
 (62, { k := .other, size := 1, bytes := 8, zero := some .nilFunc }),
 (66, { k := .other, size := 1, bytes := 0, zero := some (.tuple ⟨[.agg ⟨[.int .u32 (0), .int .u32 (0)]⟩, .int .i64 (0)]⟩) }),
 (71, { k := .sl 4, size := 1, bytes := 24, zero := some (.slice none 0 0) }),
 (72, { k := .ptr 179, size := 1, bytes := 8, zero := some (.pointer none) }),
 (73, { k := .other, size := 1, bytes := 0, zero := some (.tuple ⟨[.pointer none, .int .i64 (0)]⟩) }),
 (75, { k := .ptr 78, size := 1, bytes := 8, zero := some (.pointer none) }),
 (76, { k := .sl 128, size := 1, bytes := 24, zero := some (.slice none 0 0) }),
 (78, { k := .st [(0, 76), (1, 3)], size := 2, bytes := 32, zero := some (.agg ⟨[.slice none 0 0, .int .i64 (0)]⟩), eq := true }),
 (79, { k := .mp 41 53, size := 1, bytes := 8, zero := some (.map none) }),
 (85, { k := .sl 43, size := 1, bytes := 24, zero := some (.slice none 0 0) }),
 (87, { k := .st [(0, 3), (1, 85), (2, 43), (7, 22), (8, 3)], size := 9, bytes := 80, zero := some (.agg ⟨[.int .i64 (0), .slice none 0 0, .int .u32 (0), .int .u32 (0), .int .u32 (0), .int .u64 (0), .int .u64 (0), .int .u32 (0), .int .i64 (0)]⟩), eq := true }),
 (88, { k := .sl 101, size := 1, bytes := 24, zero := some (.slice none 0 0) }),
 (89, { k := .ptr 113, size := 1, bytes := 8, zero := some (.pointer none) }),
 (90, { k := .other, size := 1, bytes := 0, zero := some (.tuple ⟨[.pointer none, .int .i64 (0)]⟩) }),
 (92, { k := .ptr 118, size := 1, bytes := 8, zero := some (.pointer none) }),
 (93, { k := .other, size := 1, bytes := 0, zero := some (.tuple ⟨[.pointer none, .int .i64 (0)]⟩) }),
 (95, { k := .ptr 99, size := 1, bytes := 8, zero := some (.pointer none) }),
 (96, { k := .ptr 314, size := 1, bytes := 8, zero := some (.pointer none) }),
 (97, { k := .sl 130, size := 1, bytes := 24, zero := some (.slice none 0 0) }),
 (99, { k := .st [(0, 96), (1, 97), (2, 3), (3, 3)], size := 4, bytes := 48, zero := some (.agg ⟨[.pointer none, .slice none 0 0, .int .i64 (0), .int .i64 (0)]⟩), eq := true }),
 (101, { k := .st [(0, 3), (1, 3), (2, 55), (8, 53), (10, 85)], size := 11, bytes := 120, zero := some (.agg ⟨[.int .i64 (0), .int .i64 (0), .int .u64 (0), .int .i64 (0), .slice none 0 0, .slice none 0 0, .int .u32 (0), .int .u32 (0), .int .u32 (0), .int .u32 (0), .slice none 0 0]⟩), eq := true }),
 (103, { k := .other, size := 1, bytes := 0, zero := some (.tuple ⟨[.agg ⟨[.int .u32 (0), .int .u32 (0)]⟩, .int .i64 (0)]⟩) }),
 (106, { k := .other, size := 1, bytes := 0, zero := some (.tuple ⟨[.agg ⟨[.int .u64 (0), .int .i64 (0), .slice none 0 0, .slice none 0 0, .int .u32 (0), .int .u32 (0)]⟩, .int .i64 (0)]⟩) }),
 (110, { k := .ptr 264, size := 1, bytes := 8, zero := some (.pointer none) }),
 (111, { k := .sl 353, size := 1, bytes := 24, zero := some (.slice none 0 0) }),
 (113, { k := .st [(0, 110), (1, 111), (2, 3), (3, 4), (4, 3), (5, 3)], size := 6, bytes := 64, zero := some (.agg ⟨[.pointer none, .slice none 0 0, .int .i64 (0), .bool false, .int .i64 (0), .int .i64 (0)]⟩), eq := true }),
 (114, { k := .other, size := 1, bytes := 0, zero := some (.tuple ⟨[.agg ⟨[.int .u32 (0), .int .u32 (0), .int .u32 (0), .int .u64 (0), .int .u64 (0)]⟩, .bool false]⟩) }),
 (116, { k := .ptr 120, size := 1, bytes := 8, zero := some (.pointer none) }),
 (118, { k := .st [(0, 89), (1, 3), (2, 85), (3, 116), (4, 22), (5, 41)], size := 6, bytes := 64, zero := some (.agg ⟨[.pointer none, .int .i64 (0), .slice none 0 0, .pointer none, .int .u32 (0), .int .u64 (0)]⟩), eq := true }),
 (120, { k := .st [(0, 89), (1, 43), (6, 41)], size := 7, bytes := 48, zero := some (.agg ⟨[.pointer none, .int .u32 (0), .int .u32 (0), .int .u32 (0), .int .u64 (0), .int .u64 (0), .int .u64 (0)]⟩), eq := true }),
 (125, { k := .sl 9, size := 1, bytes := 24, zero := some (.slice none 0 0) }),
 (128, { k := .st [(0, 3), (1, 9), (2, 41), (3, 22), (4, 85)], size := 5, bytes := 64, zero := some (.agg ⟨[.int .i64 (0), .string ⟨⟨[]⟩⟩, .int .u64 (0), .int .u32 (0), .slice none 0 0]⟩), eq := true }),
 (130, { k := .st [(0, 3), (1, 9), (2, 41), (3, 22), (4, 85)], size := 5, bytes := 64, zero := some (.agg ⟨[.int .i64 (0), .string ⟨⟨[]⟩⟩, .int .u64 (0), .int .u32 (0), .slice none 0 0]⟩), eq := true }),
 (136, { k := .ifc, size := 1, bytes := 16, zero := some .nilIface }),
 (137, { k := .other, size := 1, bytes := 0, zero := some (.tuple ⟨[.int .u64 (0), .nilIface]⟩) }),
 (144, { k := .other, size := 1, bytes := 8, zero := some .nilFunc }),
 (145, { k := .ptr 223, size := 1, bytes := 8, zero := some (.pointer none) }),
 (147, { k := .mp 41 162, size := 1, bytes := 8, zero := some (.map none) }),
 (149, { k := .st [(0, 145), (1, 147), (2, 3), (3, 4), (4, 3), (5, 3)], size := 6, bytes := 48, zero := some (.agg ⟨[.pointer none, .map none, .int .i64 (0), .bool false, .int .i64 (0), .int .i64 (0)]⟩), eq := true }),
 (152, { k := .st [(0, 31), (1, 43), (6, 41)], size := 7, bytes := 48, zero := some (.agg ⟨[.pointer none, .int .u32 (0), .int .u32 (0), .int .u32 (0), .int .u64 (0), .int .u64 (0), .int .u64 (0)]⟩), eq := true }),
 (153, { k := .other, size := 1, bytes := 0, zero := some (.tuple ⟨[.int .i64 (0), .int .i64 (0)]⟩) }),
 (155, { k := .other, size := 1, bytes := 0, zero := some (.tuple ⟨[.slice none 0 0, .int .i64 (0)]⟩) }),
 (158, { k := .other, size := 1, bytes := 0, zero := some (.tuple ⟨[.agg ⟨[.int .u64 (0), .int .i64 (0), .slice none 0 0, .slice none 0 0, .int .u32 (0), .int .u32 (0)]⟩, .int .i64 (0), .int .i64 (0)]⟩) }),
 (162, { k := .ptr 232, size := 1, bytes := 8, zero := some (.pointer none) }),
 (163, { k := .other, size := 1, bytes := 0, zero := some (.tuple ⟨[.pointer none, .int .i64 (0)]⟩) }),
 (170, { k := .other, size := 1, bytes := 8, zero := some .nilFunc }),
 (171, { k := .sl 41, size := 1, bytes := 24, zero := some (.slice none 0 0) }),
 (175, { k := .other, size := 1, bytes := 8, zero := some .nilFunc }),
 (179, { k := .st [(0, 31), (1, 3), (2, 85), (3, 35), (4, 22), (5, 41)], size := 6, bytes := 64, zero := some (.agg ⟨[.pointer none, .int .i64 (0), .slice none 0 0, .pointer none, .int .u32 (0), .int .u64 (0)]⟩), eq := true }),
 (182, { k := .sl 185, size := 1, bytes := 24, zero := some (.slice none 0 0) }),
 (185, { k := .st [(0, 9), (1, 41)], size := 2, bytes := 24, zero := some (.agg ⟨[.string ⟨⟨[]⟩⟩, .int .u64 (0)]⟩), eq := true }),
 (187, { k := .ifc, size := 1, bytes := 16, zero := some .nilIface }),
 (188, { k := .sl 62, size := 1, bytes := 24, zero := some (.slice none 0 0) }),
 (190, { k := .other, size := 1, bytes := 8, zero := some .nilFunc }),
 (192, { k := .other, size := 1, bytes := 0, zero := some (.tuple ⟨[.pointer none, .int .i64 (0)]⟩) }),
 (194, { k := .other, size := 1, bytes := 0, zero := some (.tuple ⟨[.slice none 0 0, .int .i64 (0)]⟩) }),
 (198, { k := .sl 200, size := 1, bytes := 24, zero := some (.slice none 0 0) }),
 (200, { k := .st [(0, 9), (1, 41)], size := 2, bytes := 24, zero := some (.agg ⟨[.string ⟨⟨[]⟩⟩, .int .u64 (0)]⟩), eq := true }),
 (204, { k := .int .u64, size := 1, bytes := 8, zero := some (.int .u64 (0)) }),
 (205, { k := .other, size := 1, bytes := 0, zero := some (.tuple ⟨[.int .u64 (0), .int .u64 (0)]⟩) }),
 (208, { k := .ptr 210, size := 1, bytes := 8, zero := some (.pointer none) }),
 (210, { k := .st [(0, 208), (1, 51)], size := 2, bytes := 32, zero := some (.agg ⟨[.pointer none, .slice none 0 0]⟩), eq := true }),
 (212, { k := .other, size := 1, bytes := 0, zero := some (.tuple ⟨[.int .i64 (0), .nilIface]⟩) }),
 (216, { k := .arr 4 62, size := 4, bytes := 32, zero := some (.agg ⟨[.nilFunc, .nilFunc, .nilFunc, .nilFunc]⟩), eq := true }),
 (220, { k := .mp 9 41, size := 1, bytes := 8, zero := some (.map none) }),
 (221, { k := .sl 242, size := 1, bytes := 24, zero := some (.slice none 0 0) }),
 (223, { k := .st [(0, 220), (1, 220), (2, 221), (3, 41)], size := 4, bytes := 48, zero := some (.agg ⟨[.map none, .map none, .slice none 0 0, .int .u64 (0)]⟩), eq := true }),
 (226, { k := .ptr 48, size := 1, bytes := 8, zero := some (.pointer none) }),
 (227, { k := .other, size := 1, bytes := 8, zero := some .nilFunc }),
 (228, { k := .other, size := 1, bytes := 0, zero := some (.tuple ⟨[.agg ⟨[.int .u64 (0), .int .i64 (0), .slice none 0 0, .slice none 0 0, .int .u32 (0), .int .u32 (0)]⟩, .int .i64 (0), .int .i64 (0)]⟩) }),
 (230, { k := .sl 252, size := 1, bytes := 24, zero := some (.slice none 0 0) }),
 (232, { k := .st [(0, 51), (1, 51), (2, 230)], size := 3, bytes := 72, zero := some (.agg ⟨[.slice none 0 0, .slice none 0 0, .slice none 0 0]⟩), eq := true }),
 (235, { k := .arr 6 41, size := 6, bytes := 48, zero := some (.agg ⟨[.int .u64 (0), .int .u64 (0), .int .u64 (0), .int .u64 (0), .int .u64 (0), .int .u64 (0)]⟩), eq := true }),
 (237, { k := .arr 6 3, size := 6, bytes := 48, zero := some (.agg ⟨[.int .i64 (0), .int .i64 (0), .int .i64 (0), .int .i64 (0), .int .i64 (0), .int .i64 (0)]⟩), eq := true }),
 (241, { k := .other, size := 1, bytes := 8, zero := some .nilFunc }),
 (242, { k := .other, size := 1, bytes := 8, zero := some .nilFunc }),
 (245, { k := .other, size := 1, bytes := 8, zero := some .nilFunc }),
 (246, { k := .other, size := 1, bytes := 8, zero := some .nilFunc }),
 (252, { k := .ifc, size := 1, bytes := 16, zero := some .nilIface }),
 (253, { k := .other, size := 1, bytes := 8, zero := some .nilFunc }),
 (256, { k := .int .i64, size := 1, bytes := 8, zero := some (.int .i64 (0)) }),
 (258, { k := .other, size := 1, bytes := 8, zero := some .nilFunc }),
 (259, { k := .other, size := 1, bytes := 8, zero := some .nilFunc }),
 (262, { k := .sl 198, size := 1, bytes := 24, zero := some (.slice none 0 0) }),
 (264, { k := .st [(0, 262), (1, 41)], size := 2, bytes := 32, zero := some (.agg ⟨[.slice none 0 0, .int .u64 (0)]⟩), eq := true }),
 (270, { k := .int .i64, size := 1, bytes := 8, zero := some (.int .i64 (0)) }),
 (272, { k := .other, size := 1, bytes := 8, zero := some .nilFunc }),
 (273, { k := .ptr 320, size := 1, bytes := 8, zero := some (.pointer none) }),
 (277, { k := .arr 24 5, size := 24, bytes := 24, zero := some (.agg ⟨[.int .u8 (0), .int .u8 (0), .int .u8 (0), .int .u8 (0), .int .u8 (0), .int .u8 (0), .int .u8 (0), .int .u8 (0), .int .u8 (0), .int .u8 (0), .int .u8 (0), .int .u8 (0), .int .u8 (0), .int .u8 (0), .int .u8 (0), .int .u8 (0), .int .u8 (0), .int .u8 (0), .int .u8 (0), .int .u8 (0), .int .u8 (0), .int .u8 (0), .int .u8 (0), .int .u8 (0)]⟩), eq := true }),
 (280, { k := .other, size := 1, bytes := 0, zero := some (.tuple ⟨[.slice none 0 0, .string ⟨⟨[]⟩⟩]⟩) }),
 (282, { k := .other, size := 1, bytes := 0, zero := some (.tuple ⟨[.int .u32 (0), .int .u32 (0)]⟩) }),
 (284, { k := .other, size := 1, bytes := 0, zero := some (.tuple ⟨[.int .u64 (0), .int .u64 (0)]⟩) }),
 (286, { k := .ptr 5, size := 1, bytes := 8, zero := some (.pointer none) }),
 (288, { k := .other, size := 1, bytes := 0, zero := some (.tuple ⟨[.int .u64 (0), .int .i64 (0)]⟩) }),
 (291, { k := .other, size := 1, bytes := 0, zero := some (.tuple ⟨[.int .i64 (0), .int .u32 (0), .int .i64 (0)]⟩) }),
 (293, { k := .arr 4 5, size := 4, bytes := 4, zero := some (.agg ⟨[.int .u8 (0), .int .u8 (0), .int .u8 (0), .int .u8 (0)]⟩), eq := true }),
 (297, { k := .other, size := 1, bytes := 0, zero := some (.tuple ⟨[.int .u64 (0), .bool false]⟩) }),
 (300, { k := .sl 5, size := 1, bytes := 24, zero := some (.slice none 0 0) }),
 (303, { k := .other, size := 1, bytes := 8, zero := some .nilFunc }),
 (308, { k := .ptr 351, size := 1, bytes := 8, zero := some (.pointer none) }),
 (309, { k := .other, size := 1, bytes := 0, zero := some (.tuple ⟨[.pointer none, .int .i64 (0)]⟩) }),
 (311, { k := .ptr 365, size := 1, bytes := 8, zero := some (.pointer none) }),
 (314, { k := .st [(0, 89), (1, 311), (2, 3)], size := 3, bytes := 24, zero := some (.agg ⟨[.pointer none, .pointer none, .int .i64 (0)]⟩), eq := true }),
 (320, { k := .st [(0, 9), (1, 9), (2, 136)], size := 3, bytes := 48, zero := some (.agg ⟨[.string ⟨⟨[]⟩⟩, .string ⟨⟨[]⟩⟩, .nilIface]⟩) }),
 (323, { k := .arr 20 41, size := 20, bytes := 160, zero := some (.agg ⟨[.int .u64 (0), .int .u64 (0), .int .u64 (0), .int .u64 (0), .int .u64 (0), .int .u64 (0), .int .u64 (0), .int .u64 (0), .int .u64 (0), .int .u64 (0), .int .u64 (0), .int .u64 (0), .int .u64 (0), .int .u64 (0), .int .u64 (0), .int .u64 (0), .int .u64 (0), .int .u64 (0), .int .u64 (0), .int .u64 (0)]⟩), eq := true }),
 (324, { k := .arr 65 5, size := 65, bytes := 65, zero := some (.agg ⟨[.int .u8 (0), .int .u8 (0), .int .u8 (0), .int .u8 (0), .int .u8 (0), .int .u8 (0), .int .u8 (0), .int .u8 (0), .int .u8 (0), .int .u8 (0), .int .u8 (0), .int .u8 (0), .int .u8 (0), .int .u8 (0), .int .u8 (0), .int .u8 (0), .int .u8 (0), .int .u8 (0), .int .u8 (0), .int .u8 (0), .int .u8 (0), .int .u8 (0), .int .u8 (0), .int .u8 (0), .int .u8 (0), .int .u8 (0), .int .u8 (0), .int .u8 (0), .int .u8 (0), .int .u8 (0), .int .u8 (0), .int .u8 (0), .int .u8 (0), .int .u8 (0), .int .u8 (0), .int .u8 (0), .int .u8 (0), .int .u8 (0), .int .u8 (0), .int .u8 (0), .int .u8 (0), .int .u8 (0), .int .u8 (0), .int .u8 (0), .int .u8 (0), .int .u8 (0), .int .u8 (0), .int .u8 (0), .int .u8 (0), .int .u8 (0), .int .u8 (0), .int .u8 (0), .int .u8 (0), .int .u8 (0), .int .u8 (0), .int .u8 (0), .int .u8 (0), .int .u8 (0), .int .u8 (0), .int .u8 (0), .int .u8 (0), .int .u8 (0), .int .u8 (0), .int .u8 (0), .int .u8 (0)]⟩), eq := true }),
 (325, { k := .other, size := 1, bytes := 8, zero := some (.pointer none) }),
 (329, { k := .arr 16 5, size := 16, bytes := 16, zero := some (.agg ⟨[.int .u8 (0), .int .u8 (0), .int .u8 (0), .int .u8 (0), .int .u8 (0), .int .u8 (0), .int .u8 (0), .int .u8 (0), .int .u8 (0), .int .u8 (0), .int .u8 (0), .int .u8 (0), .int .u8 (0), .int .u8 (0), .int .u8 (0), .int .u8 (0)]⟩), eq := true }),
 (331, { k := .other, size := 1, bytes := 8, zero := some .nilFunc }),
 (334, { k := .int .i64, size := 1, bytes := 8, zero := some (.int .i64 (0)) }),
 (335, { k := .other, size := 1, bytes := 0, zero := some (.tuple ⟨[.int .i64 (0), .int .i64 (0)]⟩) }),
 (340, { k := .other, size := 1, bytes := 0, zero := some (.tuple ⟨[.int .i64 (0), .bool false]⟩) }),
 (347, { k := .other, size := 1, bytes := 0, zero := some (.tuple ⟨[.int .u64 (0), .int .i64 (0)]⟩) }),
 (349, { k := .sl 358, size := 1, bytes := 24, zero := some (.slice none 0 0) }),
 (351, { k := .st [(0, 51), (1, 349)], size := 2, bytes := 48, zero := some (.agg ⟨[.slice none 0 0, .slice none 0 0]⟩), eq := true }),
 (353, { k := .st [(0, 41), (1, 308)], size := 2, bytes := 16, zero := some (.agg ⟨[.int .u64 (0), .pointer none]⟩), eq := true }),
 (358, { k := .st [(0, 4), (1, 3), (2, 5)], size := 3, bytes := 24, zero := some (.agg ⟨[.bool false, .int .i64 (0), .int .u8 (0)]⟩), eq := true }),
 (359, { k := .other, size := 1, bytes := 0, zero := some (.tuple ⟨[.int .i64 (0), .int .i64 (0)]⟩) }),
 (361, { k := .sl 391, size := 1, bytes := 24, zero := some (.slice none 0 0) }),
 (363, { k := .st [(0, 361), (1, 41)], size := 2, bytes := 32, zero := some (.agg ⟨[.slice none 0 0, .int .u64 (0)]⟩), eq := true }),
 (365, { k := .st [(0, 41), (1, 363), (3, 85), (4, 22)], size := 5, bytes := 72, zero := some (.agg ⟨[.int .u64 (0), .slice none 0 0, .int .u64 (0), .slice none 0 0, .int .u32 (0)]⟩), eq := true }),
 (366, { k := .sl 370, size := 1, bytes := 24, zero := some (.slice none 0 0) }),
 (370, { k := .st [(0, 9), (1, 41)], size := 2, bytes := 24, zero := some (.agg ⟨[.string ⟨⟨[]⟩⟩, .int .u64 (0)]⟩), eq := true }),
 (372, { k := .ptr 374, size := 1, bytes := 8, zero := some (.pointer none) }),
 (374, { k := .st [(0, 9)], size := 1, bytes := 16, zero := some (.agg ⟨[.string ⟨⟨[]⟩⟩]⟩), eq := true }),
 (375, { k := .arr 16 22, size := 16, bytes := 64, zero := some (.agg ⟨[.int .u32 (0), .int .u32 (0), .int .u32 (0), .int .u32 (0), .int .u32 (0), .int .u32 (0), .int .u32 (0), .int .u32 (0), .int .u32 (0), .int .u32 (0), .int .u32 (0), .int .u32 (0), .int .u32 (0), .int .u32 (0), .int .u32 (0), .int .u32 (0)]⟩), eq := true }),
 (377, { k := .int .u64, size := 1, bytes := 8, zero := some (.int .u64 (0)) }),
 (380, { k := .ptr 3, size := 1, bytes := 8, zero := some (.pointer none) }),
 (389, { k := .ptr 363, size := 1, bytes := 8, zero := some (.pointer none) }),
 (391, { k := .st [(0, 9), (1, 41), (2, 41)], size := 3, bytes := 32, zero := some (.agg ⟨[.string ⟨⟨[]⟩⟩, .int .u64 (0), .int .u64 (0)]⟩), eq := true }),
 (392, { k := .other, size := 1, bytes := 0, zero := some (.tuple ⟨[.bool false, .bool false, .bool false, .bool false]⟩) }),
 (396, { k := .arr 32 5, size := 32, bytes := 32, zero := some (.agg ⟨[.int .u8 (0), .int .u8 (0), .int .u8 (0), .int .u8 (0), .int .u8 (0), .int .u8 (0), .int .u8 (0), .int .u8 (0), .int .u8 (0), .int .u8 (0), .int .u8 (0), .int .u8 (0), .int .u8 (0), .int .u8 (0), .int .u8 (0), .int .u8 (0), .int .u8 (0), .int .u8 (0), .int .u8 (0), .int .u8 (0), .int .u8 (0), .int .u8 (0), .int .u8 (0), .int .u8 (0), .int .u8 (0), .int .u8 (0), .int .u8 (0), .int .u8 (0), .int .u8 (0), .int .u8 (0), .int .u8 (0), .int .u8 (0)]⟩), eq := true }),
 (397, { k := .arr 64 5, size := 64, bytes := 64, zero := some (.agg ⟨[.int .u8 (0), .int .u8 (0), .int .u8 (0), .int .u8 (0), .int .u8 (0), .int .u8 (0), .int .u8 (0), .int .u8 (0), .int .u8 (0), .int .u8 (0), .int .u8 (0), .int .u8 (0), .int .u8 (0), .int .u8 (0), .int .u8 (0), .int .u8 (0), .int .u8 (0), .int .u8 (0), .int .u8 (0), .int .u8 (0), .int .u8 (0), .int .u8 (0), .int .u8 (0), .int .u8 (0), .int .u8 (0), .int .u8 (0), .int .u8 (0), .int .u8 (0), .int .u8 (0), .int .u8 (0), .int .u8 (0), .int .u8 (0), .int .u8 (0), .int .u8 (0), .int .u8 (0), .int .u8 (0), .int .u8 (0), .int .u8 (0), .int .u8 (0), .int .u8 (0), .int .u8 (0), .int .u8 (0), .int .u8 (0), .int .u8 (0), .int .u8 (0), .int .u8 (0), .int .u8 (0), .int .u8 (0), .int .u8 (0), .int .u8 (0), .int .u8 (0), .int .u8 (0), .int .u8 (0), .int .u8 (0), .int .u8 (0), .int .u8 (0), .int .u8 (0), .int .u8 (0), .int .u8 (0), .int .u8 (0), .int .u8 (0), .int .u8 (0), .int .u8 (0), .int .u8 (0)]⟩), eq := true }),
 (398, { k := .ptr 377, size := 1, bytes := 8, zero := some (.pointer none) }),
 (404, { k := .other, size := 1, bytes := 0, zero := some (.tuple ⟨[.slice none 0 0, .bool false]⟩) }),
 (406, { k := .other, size := 1, bytes := 0, zero := some (.tuple ⟨[.slice none 0 0, .bool false]⟩) })]
theorem ttOk : TOk Go.Proofs.Tryz.prog tt := TOk.of_eq (by kernel_rfl)
theorem ttBytes : TBytes tt := TBytes.of_all (by decide)
end Go.Proofs.YtnkobcokjalmoaaGreatDoor.Ax

namespace Go.Proofs
open Go.Shelf
def Tryz.idxfn_ren : Go.Shelf.Ren := ⟨fun | 15 => 263 | 20 => 296 | n => n, fun | 9 => 9 | 23 => 331 | 3 => 3 | 4 => 4 | 0 => 0 | 21 => 21 | n => n, fun | n => n⟩
theorem Tryz.idxfn : Go.Proofs.LaysGw.n15 Tryz.prog Tryz.idxfn_ren := {
 mixed := by kernel_rfl
 f15 := Tryz.func263.trans (congrArg some (by kernel_rfl))
 f20 := Tryz.func296.trans (congrArg some (by kernel_rfl))
 t0 := Tryz.underlying0
 a0 := Tryz.isAgg0
 z0 := Tryz.sizeOf0
 v0 := Tryz.zeroValue0
 i0 := by kernel_rfl
 t3 := Tryz.underlying3
 a3 := Tryz.isAgg3
 z3 := Tryz.sizeOf3
 v3 := Tryz.zeroValue3
 i3 := by kernel_rfl
 t4 := Tryz.underlying4
 a4 := Tryz.isAgg4
 z4 := Tryz.sizeOf4
 v4 := Tryz.zeroValue4
 i4 := by kernel_rfl
 t9 := Tryz.underlying9
 a9 := Tryz.isAgg9
 z9 := Tryz.sizeOf9
 v9 := Tryz.zeroValue9
 i9 := by kernel_rfl
 t21 := Tryz.underlying21
 a21 := Tryz.isAgg21
 z21 := Tryz.sizeOf21
 v21 := Tryz.zeroValue21
 i21 := by kernel_rfl
 t23 := Tryz.underlying331
 a23 := Tryz.isAgg331
 z23 := Tryz.sizeOf331
 v23 := Tryz.zeroValue331
 i23 := by kernel_rfl }
def Tryz.mclone_ren : Go.Shelf.Ren := ⟨fun | 5 => 164 | 7 => 221 | n => n, fun | 23 => 220 | 25 => 9 | 3 => 41 | 4 => 4 | 20 => 20 | n => n, fun | n => n⟩
theorem Tryz.mclone : Go.Proofs.SlLaysW.n5 Tryz.prog Tryz.mclone_ren := {
 mixed := by kernel_rfl
 f5 := ⟨Tryz.f164.name, by decide, Tryz.func164.trans (congrArg some (by kernel_rfl))⟩
 f7 := Tryz.func221.trans (congrArg some (by kernel_rfl))
 t4 := Tryz.underlying4
 a4 := Tryz.isAgg4
 z4 := Tryz.sizeOf4
 v4 := Tryz.zeroValue4
 t20 := Tryz.underlying20
 a20 := Tryz.isAgg20
 z20 := Tryz.sizeOf20
 v20 := Tryz.zeroValue20
 t23 := Tryz.underlying220
 a23 := Tryz.isAgg220
 z23 := Tryz.sizeOf220
 v23 := Tryz.zeroValue220 }
end Go.Proofs

namespace Go.Proofs
open Go.Shelf
def Tryz.keysN_ren : Go.Shelf.Ren := ⟨fun | 7 => 177 | 10 => 228 | n => n, fun | 23 => 220 | 26 => 9 | 3 => 41 | 28 => 259 | 0 => 0 | 27 => 258 | 33 => 272 | 4 => 4 | n => n, fun | n => n⟩
theorem Tryz.keysN : Go.Proofs.SlLaysZ.n7 Tryz.prog Tryz.keysN_ren := {
 mixed := by kernel_rfl
 f7 := ⟨Tryz.f177.name, by decide, Tryz.func177.trans (congrArg some (by kernel_rfl))⟩
 f10 := ⟨Tryz.f228.name, by decide, Tryz.func228.trans (congrArg some (by kernel_rfl))⟩
 t0 := Tryz.underlying0
 a0 := Tryz.isAgg0
 z0 := Tryz.sizeOf0
 v0 := Tryz.zeroValue0
 t4 := Tryz.underlying4
 a4 := Tryz.isAgg4
 z4 := Tryz.sizeOf4
 v4 := Tryz.zeroValue4
 t23 := Tryz.underlying220
 a23 := Tryz.isAgg220
 z23 := Tryz.sizeOf220
 v23 := Tryz.zeroValue220
 t26 := Tryz.underlying9
 a26 := Tryz.isAgg9
 z26 := Tryz.sizeOf9
 v26 := Tryz.zeroValue9
 t27 := Tryz.underlying258
 a27 := Tryz.isAgg258
 z27 := Tryz.sizeOf258
 v27 := Tryz.zeroValue258
 t28 := Tryz.underlying259
 a28 := Tryz.isAgg259
 z28 := Tryz.sizeOf259
 v28 := Tryz.zeroValue259
 t33 := Tryz.underlying272
 a33 := Tryz.isAgg272
 z33 := Tryz.sizeOf272
 v33 := Tryz.zeroValue272 }
def Tryz.sortedN_ren : Go.Shelf.Ren := ⟨fun | 6 => 176 | 8 => 226 | 9 => 227 | 11 => 274 | 13 => 225 | 12 => 275 | 23 => 273 | 24 => 251 | 14 => 303 | 15 => 304 | 16 => 305 | 17 => 306 | 18 => 307 | 19 => 308 | 20 => 309 | 21 => 310 | 22 => 311 | 25 => 323 | 26 => 298 | 27 => 299 | 28 => 324 | 29 => 325 | 30 => 326 | 31 => 330 | n => n, fun | 26 => 9 | 28 => 259 | 24 => 125 | 0 => 0 | 3 => 3 | 37 => 204 | 48 => 22 | 50 => 41 | 4 => 4 | 40 => 335 | 39 => 334 | 45 => 340 | 5 => 5 | 9 => 9 | 51 => 377 | 55 => 380 | 57 => 398 | 58 => 359 | 33 => 272 | n => n, fun | n => n⟩
theorem Tryz.sortedN : Go.Proofs.SlLaysZ.n6 Tryz.prog Tryz.sortedN_ren := {
 mixed := by kernel_rfl
 f6 := ⟨Tryz.f176.name, by decide, Tryz.func176.trans (congrArg some (by kernel_rfl))⟩
 f8 := ⟨Tryz.f226.name, by decide, Tryz.func226.trans (congrArg some (by kernel_rfl))⟩
 f11 := ⟨Tryz.f274.name, by decide, Tryz.func274.trans (congrArg some (by kernel_rfl))⟩
 t0 := Tryz.underlying0
 a0 := Tryz.isAgg0
 z0 := Tryz.sizeOf0
 v0 := Tryz.zeroValue0
 t24 := Tryz.underlying125
 a24 := Tryz.isAgg125
 z24 := Tryz.sizeOf125
 v24 := Tryz.zeroValue125
 t26 := Tryz.underlying9
 a26 := Tryz.isAgg9
 z26 := Tryz.sizeOf9
 v26 := Tryz.zeroValue9
 t28 := Tryz.underlying259
 a28 := Tryz.isAgg259
 z28 := Tryz.sizeOf259
 v28 := Tryz.zeroValue259
 i26 := by kernel_rfl }
def Tryz.sortN_ren : Go.Shelf.Ren := ⟨fun | 6 => 227 | 8 => 225 | 9 => 275 | 19 => 273 | 20 => 251 | 21 => 303 | 22 => 304 | 23 => 305 | 24 => 306 | 25 => 307 | 26 => 308 | 27 => 309 | 28 => 310 | 29 => 311 | 36 => 323 | 31 => 298 | 32 => 299 | 37 => 324 | 38 => 325 | 39 => 326 | 41 => 330 | n => n, fun | 27 => 125 | 29 => 9 | 3 => 3 | 32 => 204 | 26 => 125 | 0 => 0 | 44 => 22 | 46 => 41 | 4 => 4 | 36 => 335 | 35 => 334 | 41 => 340 | 5 => 5 | 9 => 9 | 53 => 377 | 57 => 380 | 63 => 398 | 64 => 359 | n => n, fun | n => n⟩
theorem Tryz.sortN : Go.Proofs.SlLaysM.n6 Tryz.prog Tryz.sortN_ren := {
 mixed := by kernel_rfl
 f6 := ⟨Tryz.f227.name, by decide, Tryz.func227.trans (congrArg some (by kernel_rfl))⟩
 f8 := Tryz.func225.trans (congrArg some (by kernel_rfl))
 f9 := ⟨Tryz.f275.name, by decide, Tryz.func275.trans (congrArg some (by kernel_rfl))⟩
 f19 := Tryz.func273.trans (congrArg some (by kernel_rfl))
 f20 := Tryz.func251.trans (congrArg some (by kernel_rfl))
 f21 := ⟨Tryz.f303.name, by decide, Tryz.func303.trans (congrArg some (by kernel_rfl))⟩
 f22 := ⟨Tryz.f304.name, by decide, Tryz.func304.trans (congrArg some (by kernel_rfl))⟩
 f23 := ⟨Tryz.f305.name, by decide, Tryz.func305.trans (congrArg some (by kernel_rfl))⟩
 f24 := ⟨Tryz.f306.name, by decide, Tryz.func306.trans (congrArg some (by kernel_rfl))⟩
 f25 := ⟨Tryz.f307.name, by decide, Tryz.func307.trans (congrArg some (by kernel_rfl))⟩
 f26 := ⟨Tryz.f308.name, by decide, Tryz.func308.trans (congrArg some (by kernel_rfl))⟩
 f27 := ⟨Tryz.f309.name, by decide, Tryz.func309.trans (congrArg some (by kernel_rfl))⟩
 f28 := ⟨Tryz.f310.name, by decide, Tryz.func310.trans (congrArg some (by kernel_rfl))⟩
 f29 := ⟨Tryz.f311.name, by decide, Tryz.func311.trans (congrArg some (by kernel_rfl))⟩
 f31 := Tryz.func298.trans (congrArg some (by kernel_rfl))
 f32 := Tryz.func299.trans (congrArg some (by kernel_rfl))
 f36 := ⟨Tryz.f323.name, by decide, Tryz.func323.trans (congrArg some (by kernel_rfl))⟩
 f37 := ⟨Tryz.f324.name, by decide, Tryz.func324.trans (congrArg some (by kernel_rfl))⟩
 f38 := ⟨Tryz.f325.name, by decide, Tryz.func325.trans (congrArg some (by kernel_rfl))⟩
 f39 := ⟨Tryz.f326.name, by decide, Tryz.func326.trans (congrArg some (by kernel_rfl))⟩
 f41 := ⟨Tryz.f330.name, by decide, Tryz.func330.trans (congrArg some (by kernel_rfl))⟩
 t0 := Tryz.underlying0
 a0 := Tryz.isAgg0
 z0 := Tryz.sizeOf0
 v0 := Tryz.zeroValue0
 t3 := Tryz.underlying3
 a3 := Tryz.isAgg3
 z3 := Tryz.sizeOf3
 v3 := Tryz.zeroValue3
 t4 := Tryz.underlying4
 a4 := Tryz.isAgg4
 z4 := Tryz.sizeOf4
 v4 := Tryz.zeroValue4
 t5 := Tryz.underlying5
 a5 := Tryz.isAgg5
 z5 := Tryz.sizeOf5
 v5 := Tryz.zeroValue5
 t9 := Tryz.underlying9
 a9 := Tryz.isAgg9
 z9 := Tryz.sizeOf9
 v9 := Tryz.zeroValue9
 t26 := Tryz.underlying125
 a26 := Tryz.isAgg125
 z26 := Tryz.sizeOf125
 v26 := Tryz.zeroValue125
 t27 := Tryz.underlying125
 a27 := Tryz.isAgg125
 z27 := Tryz.sizeOf125
 v27 := Tryz.zeroValue125
 t29 := Tryz.underlying9
 a29 := Tryz.isAgg9
 z29 := Tryz.sizeOf9
 v29 := Tryz.zeroValue9
 t32 := Tryz.underlying204
 a32 := Tryz.isAgg204
 z32 := Tryz.sizeOf204
 v32 := Tryz.zeroValue204
 t35 := Tryz.underlying334
 a35 := Tryz.isAgg334
 z35 := Tryz.sizeOf334
 v35 := Tryz.zeroValue334
 t36 := Tryz.underlying335
 a36 := Tryz.isAgg335
 z36 := Tryz.sizeOf335
 v36 := Tryz.zeroValue335
 t41 := Tryz.underlying340
 a41 := Tryz.isAgg340
 z41 := Tryz.sizeOf340
 v41 := Tryz.zeroValue340
 t44 := Tryz.underlying22
 a44 := Tryz.isAgg22
 z44 := Tryz.sizeOf22
 v44 := Tryz.zeroValue22
 t46 := Tryz.underlying41
 a46 := Tryz.isAgg41
 z46 := Tryz.sizeOf41
 v46 := Tryz.zeroValue41
 t53 := Tryz.underlying377
 a53 := Tryz.isAgg377
 z53 := Tryz.sizeOf377
 v53 := Tryz.zeroValue377
 t57 := Tryz.underlying380
 a57 := Tryz.isAgg380
 z57 := Tryz.sizeOf380
 v57 := Tryz.zeroValue380
 t63 := Tryz.underlying398
 a63 := Tryz.isAgg398
 z63 := Tryz.sizeOf398
 v63 := Tryz.zeroValue398
 t64 := Tryz.underlying359
 a64 := Tryz.isAgg359
 z64 := Tryz.sizeOf359
 v64 := Tryz.zeroValue359 }
def Tryz.bitsLen_ren : Go.Shelf.Ren := ⟨fun | 125 => 225 | 128 => 273 | 129 => 251 | n => n, fun | 46 => 204 | 3 => 3 | 51 => 22 | 53 => 41 | 4 => 4 | 5 => 5 | 9 => 9 | n => n, fun | n => n⟩
theorem Tryz.bitsLen : Go.Proofs.Lays.n125 Tryz.prog Tryz.bitsLen_ren := {
 mixed := by kernel_rfl
 f125 := Tryz.func225.trans (congrArg some (by kernel_rfl))
 f128 := Tryz.func273.trans (congrArg some (by kernel_rfl))
 f129 := Tryz.func251.trans (congrArg some (by kernel_rfl))
 t3 := Tryz.underlying3
 a3 := Tryz.isAgg3
 z3 := Tryz.sizeOf3
 v3 := Tryz.zeroValue3
 t4 := Tryz.underlying4
 a4 := Tryz.isAgg4
 z4 := Tryz.sizeOf4
 v4 := Tryz.zeroValue4
 t5 := Tryz.underlying5
 a5 := Tryz.isAgg5
 z5 := Tryz.sizeOf5
 v5 := Tryz.zeroValue5
 t9 := Tryz.underlying9
 a9 := Tryz.isAgg9
 z9 := Tryz.sizeOf9
 v9 := Tryz.zeroValue9
 t46 := Tryz.underlying204
 a46 := Tryz.isAgg204
 z46 := Tryz.sizeOf204
 v46 := Tryz.zeroValue204
 t51 := Tryz.underlying22
 a51 := Tryz.isAgg22
 z51 := Tryz.sizeOf22
 v51 := Tryz.zeroValue22
 t53 := Tryz.underlying41
 a53 := Tryz.isAgg41
 z53 := Tryz.sizeOf41
 v53 := Tryz.zeroValue41 }
end Go.Proofs

namespace Go.Proofs.YtnkobcokjalmoaaGreatDoor.Ax
def sch174 : List (Nat × Sched) := [(0, .take 0 (.take 1 (.take 2 (.take 3 (.take 4 (.take 7 (.two 5 (.two 6 (.two 8 (.take 9 (.take 10 (.take 11 (.take 12 (.take 13 (.take 14 (.take 15 (.done)))))))) (.take 9 (.take 10 (.take 11 (.take 8 (.take 12 (.take 13 (.take 14 (.take 15 (.done)))))))))) (.take 9 (.take 10 (.take 11 (.take 6 (.take 8 (.take 12 (.take 13 (.take 14 (.take 15 (.done))))))))))) (.take 9 (.take 10 (.take 11 (.take 5 (.take 6 (.take 8 (.take 12 (.take 13 (.take 14 (.take 15 (.done))))))))))))))))))]
def sch206 : List (Nat × Sched) := [(3, .take 0 (.take 1 (.take 2 (.take 3 (.take 4 (.take 5 (.take 6 (.take 7 (.take 8 (.take 9 (.take 10 (.done))))))))))))]
def sch205 : List (Nat × Sched) := [(1, .take 4 (.take 0 (.take 1 (.take 2 (.take 3 (.take 5 (.take 6 (.take 7 (.take 8 (.take 9 (.take 10 (.done)))))))))))), (3, .take 4 (.two 0 (.take 1 (.take 2 (.two 3 (.take 5 (.take 6 (.done))) (.take 5 (.take 3 (.take 6 (.done))))))) (.take 5 (.take 0 (.take 1 (.take 2 (.take 3 (.take 6 (.done)))))))))]
def sch36 : List (Nat × Sched) := [(7, .take 0 (.take 1 (.take 2 (.take 3 (.take 5 (.two 4 (.take 6 (.take 7 (.take 8 (.take 9 (.take 10 (.done)))))) (.take 6 (.take 4 (.take 7 (.take 8 (.take 9 (.take 10 (.done)))))))))))))]
def sch78 : List (Nat × Sched) := [(3, .take 0 (.take 1 (.take 2 (.take 3 (.take 4 (.take 5 (.take 6 (.take 7 (.take 8 (.take 9 (.take 10 (.take 11 (.take 12 (.take 13 (.take 14 (.done))))))))))))))))]
def sch150 : List (Nat × Sched) := [(9, .take 0 (.take 1 (.take 2 (.take 3 (.take 5 (.two 4 (.take 6 (.take 7 (.take 8 (.take 9 (.done))))) (.take 6 (.take 4 (.take 7 (.take 8 (.take 9 (.done)))))))))))), (10, .take 0 (.take 1 (.take 2 (.take 3 (.take 4 (.take 5 (.take 6 (.take 7 (.take 9 (.take 10 (.take 11 (.take 15 (.two 8 (.two 12 (.two 13 (.take 14 (.take 16 (.take 17 (.take 18 (.take 19 (.take 20 (.take 21 (.take 22 (.done))))))))) (.take 16 (.take 13 (.take 14 (.take 17 (.take 18 (.take 19 (.take 20 (.take 21 (.take 22 (.done))))))))))) (.take 16 (.take 12 (.take 13 (.take 14 (.take 17 (.take 18 (.take 19 (.take 20 (.take 21 (.take 22 (.done)))))))))))) (.two 12 (.two 8 (.two 13 (.take 14 (.take 16 (.take 17 (.take 18 (.take 19 (.take 20 (.take 21 (.take 22 (.done))))))))) (.take 16 (.take 13 (.take 14 (.take 17 (.take 18 (.take 19 (.take 20 (.take 21 (.take 22 (.done))))))))))) (.two 13 (.two 8 (.take 14 (.take 16 (.take 17 (.take 18 (.take 19 (.take 20 (.take 21 (.take 22 (.done))))))))) (.take 16 (.take 8 (.take 14 (.take 17 (.take 18 (.take 19 (.take 20 (.take 21 (.take 22 (.done))))))))))) (.take 16 (.two 8 (.take 13 (.take 14 (.take 17 (.take 18 (.take 19 (.take 20 (.take 21 (.take 22 (.done))))))))) (.take 13 (.take 8 (.take 14 (.take 17 (.take 18 (.take 19 (.take 20 (.take 21 (.take 22 (.done)))))))))))))) (.take 16 (.two 8 (.take 12 (.take 13 (.take 14 (.take 17 (.take 18 (.take 19 (.take 20 (.take 21 (.take 22 (.done)))))))))) (.take 12 (.two 8 (.take 13 (.take 14 (.take 17 (.take 18 (.take 19 (.take 20 (.take 21 (.take 22 (.done))))))))) (.take 13 (.take 8 (.take 14 (.take 17 (.take 18 (.take 19 (.take 20 (.take 21 (.take 22 (.done)))))))))))))))))))))))))))), (12, .take 0 (.take 1 (.take 2 (.take 3 (.take 4 (.take 5 (.take 6 (.take 7 (.take 8 (.take 9 (.take 10 (.take 11 (.take 12 (.take 13 (.done)))))))))))))))]
def sch28 : List (Nat × Sched) := [(3, .take 0 (.take 1 (.take 2 (.take 3 (.take 4 (.take 5 (.take 6 (.take 7 (.take 8 (.take 9 (.take 10 (.take 11 (.take 12 (.take 13 (.done))))))))))))))), (5, .take 0 (.take 2 (.take 3 (.take 4 (.take 5 (.two 1 (.take 6 (.take 7 (.take 8 (.take 9 (.take 10 (.done)))))) (.take 6 (.two 1 (.take 7 (.take 8 (.take 9 (.take 10 (.done))))) (.take 7 (.take 8 (.take 1 (.take 9 (.take 10 (.done)))))))))))))), (8, .take 0 (.take 1 (.take 2 (.take 4 (.take 5 (.take 6 (.take 7 (.take 10 (.two 3 (.take 8 (.take 9 (.take 11 (.take 12 (.done))))) (.take 8 (.two 3 (.take 9 (.take 11 (.take 12 (.done)))) (.take 9 (.take 3 (.take 11 (.take 12 (.done)))))))))))))))), (11, .take 0 (.take 1 (.take 2 (.take 3 (.take 4 (.take 5 (.take 6 (.take 7 (.take 8 (.take 9 (.take 10 (.take 11 (.take 12 (.done))))))))))))))]
def sch25 : List (Nat × Sched) := [(3, .take 0 (.take 1 (.take 2 (.take 4 (.take 5 (.take 6 (.take 7 (.two 3 (.take 8 (.take 9 (.take 10 (.take 11 (.done))))) (.take 8 (.two 3 (.take 9 (.take 10 (.take 11 (.done)))) (.take 9 (.take 3 (.take 10 (.take 11 (.done)))))))))))))))]
def sch299 : List (Nat × Sched) := [(1, .take 0 (.take 1 (.take 2 (.take 3 (.take 4 (.take 5 (.take 6 (.take 7 (.take 8 (.take 9 (.done))))))))))), (2, .take 0 (.take 1 (.take 2 (.take 3 (.take 4 (.take 5 (.take 6 (.take 7 (.take 8 (.take 9 (.done))))))))))), (3, .take 0 (.take 1 (.take 2 (.take 3 (.take 4 (.take 5 (.take 6 (.take 7 (.take 8 (.take 9 (.done)))))))))))]
def sch159 : List (Nat × Sched) := [(2, .take 0 (.take 2 (.take 1 (.take 3 (.take 4 (.done))))))]
def sch152 : List (Nat × Sched) := [(2, .take 0 (.take 1 (.take 2 (.take 3 (.take 4 (.take 5 (.take 6 (.take 8 (.take 9 (.take 10 (.two 7 (.take 11 (.take 12 (.take 13 (.take 14 (.take 15 (.done)))))) (.take 11 (.two 7 (.take 12 (.take 13 (.take 14 (.take 15 (.done))))) (.take 12 (.take 7 (.take 13 (.take 14 (.take 15 (.done)))))))))))))))))))]
def sch213 : List (Nat × Sched) := [(8, .take 0 (.take 1 (.take 2 (.take 3 (.take 4 (.done))))))]
def sch260 : List (Nat × Sched) := [(2, .take 0 (.take 1 (.take 2 (.take 3 (.take 4 (.take 5 (.take 6 (.take 7 (.take 8 (.take 9 (.take 10 (.take 11 (.done)))))))))))))]
def sch79 : List (Nat × Sched) := [(7, .take 0 (.take 2 (.two 1 (.take 4 (.two 3 (.take 5 (.take 6 (.take 7 (.done)))) (.take 5 (.take 3 (.take 6 (.take 7 (.done))))))) (.take 3 (.take 1 (.take 4 (.take 5 (.take 6 (.take 7 (.done)))))))))), (15, .take 0 (.take 1 (.take 2 (.take 3 (.take 4 (.done)))))), (16, .take 0 (.take 1 (.take 2 (.take 3 (.take 4 (.take 5 (.take 6 (.done))))))))]
def sch85 : List (Nat × Sched) := [(10, .take 0 (.take 1 (.take 4 (.two 2 (.two 3 (.take 5 (.take 6 (.take 7 (.take 8 (.take 9 (.done)))))) (.take 5 (.take 3 (.take 6 (.take 7 (.take 8 (.take 9 (.done)))))))) (.take 5 (.take 2 (.take 3 (.take 6 (.take 7 (.take 8 (.take 9 (.done))))))))))))]
def sch153 : List (Nat × Sched) := [(9, .take 0 (.take 1 (.take 4 (.two 2 (.two 3 (.two 5 (.two 6 (.take 7 (.take 8 (.take 9 (.done)))) (.take 7 (.take 6 (.take 8 (.take 9 (.done)))))) (.take 7 (.take 5 (.take 6 (.take 8 (.take 9 (.done))))))) (.two 5 (.two 3 (.two 6 (.take 7 (.take 8 (.take 9 (.done)))) (.take 7 (.take 6 (.take 8 (.take 9 (.done)))))) (.two 6 (.two 3 (.take 7 (.take 8 (.take 9 (.done)))) (.take 7 (.take 3 (.take 8 (.take 9 (.done)))))) (.take 7 (.take 3 (.take 6 (.take 8 (.take 9 (.done)))))))) (.take 7 (.take 3 (.take 5 (.take 6 (.take 8 (.take 9 (.done))))))))) (.two 5 (.two 2 (.two 3 (.two 6 (.take 7 (.take 8 (.take 9 (.done)))) (.take 7 (.take 6 (.take 8 (.take 9 (.done)))))) (.two 6 (.two 3 (.take 7 (.take 8 (.take 9 (.done)))) (.take 7 (.take 3 (.take 8 (.take 9 (.done)))))) (.take 7 (.take 3 (.take 6 (.take 8 (.take 9 (.done)))))))) (.two 6 (.two 2 (.two 3 (.take 7 (.take 8 (.take 9 (.done)))) (.take 7 (.take 3 (.take 8 (.take 9 (.done)))))) (.take 7 (.take 2 (.take 3 (.take 8 (.take 9 (.done))))))) (.take 7 (.take 2 (.take 3 (.take 6 (.take 8 (.take 9 (.done))))))))) (.take 7 (.take 2 (.take 3 (.take 5 (.take 6 (.take 8 (.take 9 (.done)))))))))))))]
def sch171 : List (Nat × Sched) := [(6, .take 0 (.take 1 (.take 2 (.take 3 (.take 4 (.take 5 (.take 6 (.take 7 (.take 8 (.take 9 (.done))))))))))), (11, .take 0 (.take 1 (.take 2 (.take 3 (.take 4 (.take 5 (.take 6 (.take 7 (.take 8 (.take 9 (.done)))))))))))]
def sch266 : List (Nat × Sched) := [(10, .take 0 (.take 1 (.take 2 (.take 3 (.take 4 (.take 5 (.take 6 (.take 7 (.take 8 (.take 9 (.take 10 (.take 11 (.take 12 (.take 13 (.take 14 (.take 15 (.take 16 (.take 17 (.take 18 (.take 19 (.done)))))))))))))))))))))]
def sch265 : List (Nat × Sched) := [(10, .take 0 (.take 1 (.take 2 (.take 3 (.take 4 (.take 5 (.take 6 (.take 7 (.take 8 (.take 9 (.take 10 (.take 11 (.take 12 (.take 13 (.take 14 (.take 15 (.take 16 (.take 17 (.take 18 (.take 19 (.done)))))))))))))))))))))]
def sch264 : List (Nat × Sched) := [(4, .take 0 (.take 1 (.take 2 (.take 3 (.take 4 (.take 5 (.take 6 (.take 7 (.take 8 (.take 9 (.take 10 (.take 11 (.take 12 (.take 13 (.take 14 (.done)))))))))))))))), (6, .take 0 (.take 1 (.take 2 (.take 3 (.take 4 (.take 5 (.take 6 (.take 7 (.take 8 (.take 9 (.take 10 (.take 11 (.take 12 (.take 13 (.take 14 (.take 15 (.take 16 (.take 17 (.done)))))))))))))))))))]
def sch322 : List (Nat × Sched) := [(1, .take 0 (.take 1 (.take 2 (.take 3 (.take 4 (.take 5 (.take 6 (.take 7 (.take 8 (.done))))))))))]
def sch269 : List (Nat × Sched) := [(5, .take 0 (.take 1 (.take 2 (.take 3 (.take 4 (.take 5 (.take 6 (.take 7 (.take 8 (.take 9 (.take 10 (.take 11 (.take 12 (.take 13 (.take 14 (.take 15 (.done))))))))))))))))), (11, .take 0 (.take 1 (.take 2 (.take 3 (.take 4 (.take 5 (.take 6 (.take 7 (.take 8 (.take 9 (.take 10 (.take 11 (.take 12 (.take 13 (.take 14 (.take 15 (.take 16 (.take 17 (.done))))))))))))))))))), (16, .take 0 (.take 1 (.take 2 (.take 3 (.take 4 (.take 5 (.take 6 (.take 7 (.take 8 (.take 9 (.take 10 (.done)))))))))))), (17, .take 0 (.take 1 (.take 2 (.take 3 (.take 4 (.take 5 (.take 6 (.take 7 (.take 8 (.take 9 (.take 10 (.take 11 (.take 12 (.take 13 (.take 14 (.take 15 (.take 16 (.take 17 (.done))))))))))))))))))), (22, .take 0 (.take 1 (.take 2 (.take 3 (.take 4 (.take 5 (.take 6 (.take 7 (.take 8 (.take 9 (.take 10 (.done)))))))))))), (23, .take 0 (.take 1 (.take 2 (.take 3 (.take 4 (.take 5 (.take 6 (.take 7 (.take 8 (.take 9 (.take 10 (.take 11 (.take 12 (.take 13 (.take 14 (.take 15 (.take 16 (.take 17 (.done)))))))))))))))))))]
def sch271 : List (Nat × Sched) := [(1, .take 0 (.take 1 (.take 2 (.take 3 (.take 4 (.take 5 (.take 6 (.take 7 (.take 8 (.take 9 (.take 10 (.take 11 (.take 12 (.take 13 (.take 14 (.take 15 (.done))))))))))))))))), (3, .take 0 (.take 1 (.take 2 (.take 3 (.take 4 (.take 5 (.take 6 (.take 7 (.take 8 (.take 9 (.take 10 (.take 11 (.take 12 (.take 13 (.take 14 (.done)))))))))))))))), (5, .take 0 (.take 1 (.take 2 (.take 3 (.take 4 (.take 5 (.take 6 (.take 7 (.take 8 (.take 9 (.take 10 (.take 11 (.take 12 (.take 13 (.done))))))))))))))), (8, .take 0 (.take 1 (.take 2 (.take 3 (.take 4 (.take 5 (.take 6 (.take 7 (.take 8 (.take 9 (.take 10 (.take 11 (.take 12 (.take 13 (.take 14 (.take 15 (.done)))))))))))))))))]
def sch272 : List (Nat × Sched) := [(1, .take 0 (.take 1 (.take 2 (.take 3 (.take 4 (.take 5 (.take 6 (.take 7 (.take 8 (.take 9 (.take 10 (.take 11 (.take 12 (.take 13 (.take 14 (.take 15 (.done))))))))))))))))), (3, .take 0 (.take 1 (.take 2 (.take 3 (.take 4 (.take 5 (.take 6 (.take 7 (.take 8 (.take 9 (.take 10 (.take 11 (.take 12 (.take 13 (.done))))))))))))))), (5, .take 0 (.take 1 (.take 2 (.take 3 (.take 4 (.take 5 (.take 6 (.take 7 (.take 8 (.take 9 (.take 10 (.take 11 (.take 12 (.take 13 (.take 14 (.done)))))))))))))))), (8, .take 0 (.take 1 (.take 2 (.take 3 (.take 4 (.take 5 (.take 6 (.take 7 (.take 8 (.take 9 (.take 10 (.take 11 (.take 12 (.take 13 (.take 14 (.take 15 (.done))))))))))))))))), (10, .take 0 (.take 1 (.take 2 (.take 3 (.take 4 (.take 5 (.take 6 (.take 7 (.take 8 (.take 9 (.take 10 (.take 11 (.take 12 (.take 13 (.take 14 (.take 15 (.done))))))))))))))))), (13, .take 0 (.take 1 (.take 2 (.take 3 (.take 4 (.take 5 (.take 6 (.take 7 (.take 8 (.take 9 (.take 10 (.take 11 (.take 12 (.take 13 (.done))))))))))))))), (15, .take 0 (.take 1 (.take 2 (.take 3 (.take 4 (.take 5 (.take 6 (.take 7 (.take 8 (.take 9 (.take 10 (.take 11 (.take 12 (.take 13 (.take 14 (.done)))))))))))))))), (18, .take 0 (.take 1 (.take 2 (.take 3 (.take 4 (.take 5 (.take 6 (.take 7 (.take 8 (.take 9 (.take 10 (.take 11 (.take 12 (.take 13 (.take 14 (.take 15 (.done))))))))))))))))), (21, .take 0 (.take 1 (.take 2 (.take 3 (.take 4 (.take 5 (.take 6 (.take 7 (.take 8 (.take 9 (.take 10 (.take 11 (.take 12 (.take 13 (.take 14 (.take 15 (.done)))))))))))))))))]
def sch224 : List (Nat × Sched) := [(17, .take 0 (.take 1 (.take 2 (.take 3 (.take 4 (.take 5 (.take 6 (.take 7 (.take 8 (.take 9 (.take 10 (.take 11 (.take 12 (.take 13 (.take 14 (.done))))))))))))))))]
def sch268 : List (Nat × Sched) := [(3, .take 0 (.take 1 (.take 2 (.take 3 (.take 4 (.take 5 (.take 6 (.take 7 (.take 8 (.take 9 (.take 10 (.take 11 (.take 12 (.take 13 (.take 14 (.take 15 (.done)))))))))))))))))]
def sch297 : List (Nat × Sched) := [(3, .take 0 (.take 1 (.take 2 (.take 3 (.take 4 (.take 5 (.take 6 (.take 7 (.take 8 (.take 9 (.take 10 (.take 11 (.take 12 (.take 13 (.take 14 (.take 15 (.take 16 (.take 17 (.take 18 (.take 19 (.done))))))))))))))))))))), (5, .take 0 (.take 1 (.take 2 (.take 3 (.take 4 (.take 5 (.take 6 (.take 7 (.take 8 (.take 9 (.take 10 (.take 11 (.take 12 (.take 13 (.done))))))))))))))), (6, .take 0 (.take 1 (.take 2 (.take 3 (.take 4 (.take 5 (.take 6 (.take 7 (.take 8 (.take 9 (.take 10 (.take 11 (.take 12 (.take 13 (.take 14 (.take 15 (.take 16 (.take 17 (.take 18 (.take 19 (.take 20 (.take 21 (.take 22 (.take 23 (.done)))))))))))))))))))))))))]
end Go.Proofs.YtnkobcokjalmoaaGreatDoor.Ax

namespace Go.Proofs.YtnkobcokjalmoaaGreatDoor.Ax
def sch350 : List (Nat × Sched) := [(4, .take 0 (.take 1 (.take 2 (.take 3 (.take 4 (.take 5 (.take 6 (.take 7 (.take 8 (.take 9 (.take 10 (.done))))))))))))]
def sch37 : List (Nat × Sched) := [(3, .take 0 (.take 1 (.take 2 (.take 3 (.take 4 (.take 5 (.take 6 (.take 7 (.take 8 (.take 9 (.take 10 (.done)))))))))))), (5, .take 0 (.take 1 (.take 2 (.take 3 (.take 4 (.take 5 (.take 6 (.take 7 (.take 8 (.take 9 (.take 13 (.take 16 (.take 17 (.take 18 (.take 19 (.take 10 (.take 11 (.take 12 (.take 14 (.take 15 (.take 20 (.take 21 (.take 22 (.done)))))))))))))))))))))))), (17, .take 0 (.two 1 (.take 2 (.take 3 (.done))) (.take 2 (.take 1 (.take 3 (.done))))))]
def sch112 : List (Nat × Sched) := [(1, .take 4 (.take 0 (.take 1 (.take 2 (.take 3 (.take 5 (.take 6 (.take 7 (.take 8 (.take 9 (.take 10 (.done))))))))))))]
def sch38 : List (Nat × Sched) := [(3, .take 0 (.take 1 (.take 2 (.take 3 (.take 4 (.take 5 (.take 6 (.take 7 (.take 8 (.take 9 (.take 12 (.take 13 (.take 10 (.take 11 (.take 14 (.take 15 (.done))))))))))))))))), (4, .take 0 (.take 1 (.take 2 (.take 3 (.take 4 (.take 5 (.take 6 (.take 7 (.take 8 (.take 9 (.done))))))))))), (8, .take 0 (.take 1 (.take 2 (.take 3 (.take 4 (.take 5 (.take 6 (.take 8 (.take 7 (.take 9 (.take 10 (.take 11 (.take 12 (.take 13 (.take 14 (.take 15 (.take 16 (.done))))))))))))))))))]
def sch111 : List (Nat × Sched) := [(10, .take 0 (.take 1 (.take 2 (.take 3 (.take 4 (.take 5 (.take 6 (.done))))))))]
def sch109 : List (Nat × Sched) := [(10, .take 0 (.take 1 (.take 2 (.take 3 (.take 4 (.take 5 (.take 6 (.take 7 (.take 8 (.take 9 (.take 10 (.take 11 (.take 12 (.take 13 (.take 14 (.done))))))))))))))))]
def sch10 : List (Nat × Sched) := [(13, .take 0 (.take 1 (.take 2 (.take 3 (.take 4 (.take 5 (.take 6 (.take 7 (.take 8 (.take 9 (.take 10 (.take 11 (.take 12 (.take 13 (.take 14 (.take 15 (.take 16 (.take 17 (.take 19 (.take 20 (.take 18 (.take 21 (.take 22 (.done)))))))))))))))))))))))), (32, .take 0 (.take 1 (.take 2 (.take 3 (.take 4 (.take 5 (.take 6 (.take 7 (.take 8 (.take 9 (.take 10 (.take 11 (.take 12 (.take 13 (.take 14 (.take 15 (.take 16 (.take 17 (.take 19 (.take 20 (.take 21 (.take 22 (.take 18 (.take 23 (.take 24 (.take 25 (.take 26 (.take 27 (.take 28 (.take 29 (.take 30 (.take 31 (.take 32 (.take 33 (.take 34 (.take 35 (.take 36 (.take 37 (.take 38 (.take 39 (.done))))))))))))))))))))))))))))))))))))))))), (37, .take 0 (.take 1 (.take 2 (.take 3 (.take 4 (.take 5 (.take 6 (.take 7 (.take 8 (.take 9 (.take 11 (.take 10 (.take 12 (.take 13 (.take 14 (.take 17 (.take 15 (.take 16 (.take 18 (.take 19 (.take 20 (.take 21 (.take 22 (.take 23 (.take 26 (.take 27 (.take 28 (.two 24 (.take 25 (.take 29 (.take 30 (.take 31 (.take 32 (.take 33 (.take 34 (.take 35 (.take 37 (.take 38 (.take 39 (.take 40 (.take 41 (.take 42 (.take 43 (.take 44 (.take 45 (.take 36 (.take 46 (.take 47 (.take 48 (.done)))))))))))))))))))))) (.take 29 (.take 30 (.take 31 (.take 24 (.take 25 (.take 32 (.take 33 (.take 34 (.take 35 (.take 37 (.take 38 (.take 39 (.take 40 (.take 41 (.take 42 (.take 43 (.take 44 (.take 45 (.take 36 (.take 46 (.take 47 (.take 48 (.done)))))))))))))))))))))))))))))))))))))))))))))))))))]
def sch44 : List (Nat × Sched) := [(1, .take 0 (.take 1 (.take 2 (.take 3 (.take 4 (.take 5 (.take 6 (.take 7 (.take 8 (.take 9 (.take 10 (.take 11 (.take 12 (.take 13 (.take 14 (.take 15 (.take 16 (.take 17 (.done)))))))))))))))))))]
def sch33 : List (Nat × Sched) := [(9, .take 0 (.take 1 (.take 2 (.take 3 (.take 4 (.two 5 (.two 6 (.two 7 (.take 8 (.two 9 (.take 10 (.take 11 (.take 12 (.take 13 (.take 14 (.take 15 (.done))))))) (.take 13 (.take 9 (.take 10 (.take 11 (.take 12 (.take 14 (.take 15 (.done)))))))))) (.take 13 (.take 7 (.take 8 (.take 9 (.take 10 (.take 11 (.take 12 (.take 14 (.take 15 (.done))))))))))) (.two 7 (.two 6 (.take 8 (.two 9 (.take 10 (.take 11 (.take 12 (.take 13 (.take 14 (.take 15 (.done))))))) (.take 13 (.take 9 (.take 10 (.take 11 (.take 12 (.take 14 (.take 15 (.done)))))))))) (.take 13 (.take 6 (.take 8 (.take 9 (.take 10 (.take 11 (.take 12 (.take 14 (.take 15 (.done))))))))))) (.take 13 (.two 6 (.take 7 (.take 8 (.take 9 (.take 10 (.take 11 (.take 12 (.take 14 (.take 15 (.done))))))))) (.take 7 (.take 6 (.take 8 (.take 9 (.take 10 (.take 11 (.take 12 (.take 14 (.take 15 (.done)))))))))))))) (.two 6 (.two 5 (.two 7 (.take 8 (.two 9 (.take 10 (.take 11 (.take 12 (.take 13 (.take 14 (.take 15 (.done))))))) (.take 13 (.take 9 (.take 10 (.take 11 (.take 12 (.take 14 (.take 15 (.done)))))))))) (.take 13 (.take 7 (.take 8 (.take 9 (.take 10 (.take 11 (.take 12 (.take 14 (.take 15 (.done))))))))))) (.two 7 (.two 5 (.take 8 (.two 9 (.take 10 (.take 11 (.take 12 (.take 13 (.take 14 (.take 15 (.done))))))) (.take 13 (.take 9 (.take 10 (.take 11 (.take 12 (.take 14 (.take 15 (.done)))))))))) (.take 13 (.take 5 (.take 8 (.take 9 (.take 10 (.take 11 (.take 12 (.take 14 (.take 15 (.done))))))))))) (.take 13 (.two 5 (.take 7 (.take 8 (.take 9 (.take 10 (.take 11 (.take 12 (.take 14 (.take 15 (.done))))))))) (.take 7 (.take 5 (.take 8 (.take 9 (.take 10 (.take 11 (.take 12 (.take 14 (.take 15 (.done)))))))))))))) (.two 7 (.two 5 (.two 6 (.take 8 (.two 9 (.take 10 (.take 11 (.take 12 (.take 13 (.take 14 (.take 15 (.done))))))) (.take 13 (.take 9 (.take 10 (.take 11 (.take 12 (.take 14 (.take 15 (.done)))))))))) (.take 13 (.take 6 (.take 8 (.take 9 (.take 10 (.take 11 (.take 12 (.take 14 (.take 15 (.done))))))))))) (.two 6 (.two 5 (.take 8 (.two 9 (.take 10 (.take 11 (.take 12 (.take 13 (.take 14 (.take 15 (.done))))))) (.take 13 (.take 9 (.take 10 (.take 11 (.take 12 (.take 14 (.take 15 (.done)))))))))) (.take 13 (.take 5 (.take 8 (.take 9 (.take 10 (.take 11 (.take 12 (.take 14 (.take 15 (.done))))))))))) (.take 13 (.two 5 (.take 6 (.take 8 (.take 9 (.take 10 (.take 11 (.take 12 (.take 14 (.take 15 (.done))))))))) (.take 6 (.take 5 (.take 8 (.take 9 (.take 10 (.take 11 (.take 12 (.take 14 (.take 15 (.done)))))))))))))) (.take 13 (.two 5 (.two 6 (.take 7 (.take 8 (.take 9 (.take 10 (.take 11 (.take 12 (.take 14 (.take 15 (.done))))))))) (.take 7 (.take 6 (.take 8 (.take 9 (.take 10 (.take 11 (.take 12 (.take 14 (.take 15 (.done))))))))))) (.two 6 (.two 5 (.take 7 (.take 8 (.take 9 (.take 10 (.take 11 (.take 12 (.take 14 (.take 15 (.done))))))))) (.take 7 (.take 5 (.take 8 (.take 9 (.take 10 (.take 11 (.take 12 (.take 14 (.take 15 (.done))))))))))) (.take 7 (.two 5 (.take 6 (.take 8 (.take 9 (.take 10 (.take 11 (.take 12 (.take 14 (.take 15 (.done))))))))) (.take 6 (.take 5 (.take 8 (.take 9 (.take 10 (.take 11 (.take 12 (.take 14 (.take 15 (.done)))))))))))))))))))))))]
def sch102 : List (Nat × Sched) := [(6, .take 0 (.take 1 (.take 2 (.take 3 (.take 4 (.take 5 (.take 6 (.take 7 (.take 8 (.done))))))))))]
def sch63 : List (Nat × Sched) := [(1, .take 0 (.take 1 (.take 2 (.take 3 (.take 5 (.take 6 (.take 7 (.take 8 (.take 4 (.take 9 (.take 10 (.take 11 (.take 12 (.done))))))))))))))]
end Go.Proofs.YtnkobcokjalmoaaGreatDoor.Ax
