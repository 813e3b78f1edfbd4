/-
  Tables of types, schedules, what start-up lays.
-/
import Derived.Test.YtgfkepebfaiepaaGreatDoorBxZ
import Derived.Test.YtgfkepebfaiepaaGreatDoorProg
import Derived.Shelf.GgClosure.StringsIndexFuncTop
import Derived.Shelf.Strings.FuncGrows
import Derived.Shelf.SlMaps.Clone
import Derived.Ground.GgwProg
import Derived.Ground.SlmcProg
import Derived.Ground.NamesProg
import Derived.Shelf.SlIter.Nil
import Derived.Shelf.SortM.Plain
import Derived.Shelf.SortM.SortNone
import Derived.Shelf.Small.Bits
import Derived.Ground.GgzProg
import Derived.Ground.SlgmProg
import Derived.Shelf.Strconv.ToError
namespace Go.Proofs.YtgfkepebfaiepaaGreatDoor.Ax
def tt : TT := [
 (0, { k := .other, size := 1, bytes := 0, zero := some (.tuple ⟨[]⟩) }),
 (2, { k := .int .i64, size := 1, bytes := 8, zero := some (.int .i64 (0)) }),
 (3, { k := .int .i64, size := 1, bytes := 8, zero := some (.int .i64 (0)) }),
 (4, { k := .bool, size := 1, bytes := 1, zero := some (.bool false) }),
 (5, { k := .int .u8, size := 1, bytes := 1, zero := some (.int .u8 (0)) }),
 (9, { k := .str, size := 1, bytes := 16, zero := some (.string ⟨⟨[]⟩⟩) }),
 (20, { k := .ifc, size := 1, bytes := 16, zero := some .nilIface }),
 (21, { k := .int .i32, size := 1, bytes := 4, zero := some (.int .i32 (0)) }),
 (22, { k := .int .u32, size := 1, bytes := 4, zero := some (.int .u32 (0)) }),
 (23, { k := .other, size := 1, bytes := 0, zero := some (.tuple ⟨[.int .u32 (0), .bool false]⟩) }),
 (26, { k := .other, size := 1, bytes := 8, zero := some .nilFunc }),
 (28, { k := .sl 50, size := 1, bytes := 24, zero := some (.slice none 0 0) }),
 (29, { k := .sl 4, size := 1, bytes := 24, zero := some (.slice none 0 0) }),
 (31, { k := .ptr 149, size := 1, bytes := 8, zero := some (.pointer none) }),
 (32, { k := .int .i64, size := 1, bytes := 8, zero := some (.int .i64 (0)) }),
 (33, { k := .other, size := 1, bytes := 0, zero := some (.tuple ⟨[.pointer none, .int .i64 (0)]⟩) }),
 (35, { k := .ptr 153, size := 1, bytes := 8, zero := some (.pointer none) }),
 (36, { k := .other, size := 1, bytes := 0, zero := some (.tuple ⟨[.pointer none, .int .i64 (0)]⟩) }),
 (38, { k := .int .u64, size := 1, bytes := 8, zero := some (.int .u64 (0)) }),
 (40, { k := .st [(0, 22), (1, 22), (2, 22), (3, 38), (4, 38)], size := 5, bytes := 32, zero := some (.agg ⟨[.int .u32 (0), .int .u32 (0), .int .u32 (0), .int .u64 (0), .int .u64 (0)]⟩), eq := true }),
 (41, { k := .ptr 44, size := 1, bytes := 8, zero := some (.pointer none) }),
 (42, { k := .sl 105, size := 1, bytes := 24, zero := some (.slice none 0 0) }),
 (44, { k := .st [(0, 42), (1, 3)], size := 2, bytes := 32, zero := some (.agg ⟨[.slice none 0 0, .int .i64 (0)]⟩), eq := true }),
 (45, { k := .mp 38 48, size := 1, bytes := 8, zero := some (.map none) }),
 (46, { k := .sl 5, size := 1, bytes := 24, zero := some (.slice none 0 0) }),
 (48, { k := .st [(0, 22), (1, 22)], size := 2, bytes := 8, zero := some (.agg ⟨[.int .u32 (0), .int .u32 (0)]⟩), eq := true }),
 (50, { k := .st [(0, 38), (1, 3), (2, 46), (3, 46), (4, 48)], size := 6, bytes := 72, zero := some (.agg ⟨[.int .u64 (0), .int .i64 (0), .slice none 0 0, .slice none 0 0, .int .u32 (0), .int .u32 (0)]⟩), eq := true }),
 (54, { k := .other, size := 1, bytes := 0, zero := some (.tuple ⟨[.agg ⟨[.int .u32 (0), .int .u32 (0)]⟩, .int .i64 (0)]⟩) }),
 (56, { k := .other, size := 1, bytes := 0, zero := some (.tuple ⟨[.agg ⟨[.int .u64 (0), .int .i64 (0), .slice none 0 0, .slice none 0 0, .int .u32 (0), .int .u32 (0)]⟩, .int .i64 (0)]⟩) }),
 (61, { k := .sl 40, size := 1, bytes := 24, zero := some (.slice none 0 0) }),
 (63, { k := .st [(0, 3), (1, 61), (2, 40), (7, 22), (8, 3)], size := 9, bytes := 80, zero := some (.agg ⟨[.int .i64 (0), .slice none 0 0, .int .u32 (0), .int .u32 (0), .int .u32 (0), .int .u64 (0), .int .u64 (0), .int .u32 (0), .int .i64 (0)]⟩), eq := true }),
 (64, { k := .sl 78, size := 1, bytes := 24, zero := some (.slice none 0 0) }),
 (65, { k := .ptr 90, size := 1, bytes := 8, zero := some (.pointer none) }),
 (66, { k := .other, size := 1, bytes := 0, zero := some (.tuple ⟨[.pointer none, .int .i64 (0)]⟩) }),
 (68, { k := .ptr 95, size := 1, bytes := 8, zero := some (.pointer none) }),
 (69, { k := .other, size := 1, bytes := 0, zero := some (.tuple ⟨[.pointer none, .int .i64 (0)]⟩) }),
 (71, { k := .other, size := 1, bytes := 8, zero := some .nilFunc }),
 (72, { k := .ptr 76, size := 1, bytes := 8, zero := some (.pointer none) }),
 (73, { k := .ptr 300, size := 1, bytes := 8, zero := some (.pointer none) }),
 (74, { k := .sl 107, size := 1, bytes := 24, zero := some (.slice none 0 0) }),
 (76, { k := .st [(0, 73), (1, 74), (2, 3), (3, 3)], size := 4, bytes := 48, zero := some (.agg ⟨[.pointer none, .slice none 0 0, .int .i64 (0), .int .i64 (0)]⟩), eq := true }),
 (78, { k := .st [(0, 3), (1, 3), (2, 50), (8, 48), (10, 61)], size := 11, bytes := 120, zero := some (.agg ⟨[.int .i64 (0), .int .i64 (0), .int .u64 (0), .int .i64 (0), .slice none 0 0, .slice none 0 0, .int .u32 (0), .int .u32 (0), .int .u32 (0), .int .u32 (0), .slice none 0 0]⟩), eq := true }),
 (80, { k := .other, size := 1, bytes := 0, zero := some (.tuple ⟨[.agg ⟨[.int .u32 (0), .int .u32 (0)]⟩, .int .i64 (0)]⟩) }),
 (83, { k := .other, size := 1, bytes := 0, zero := some (.tuple ⟨[.agg ⟨[.int .u64 (0), .int .i64 (0), .slice none 0 0, .slice none 0 0, .int .u32 (0), .int .u32 (0)]⟩, .int .i64 (0)]⟩) }),
 (87, { k := .ptr 234, size := 1, bytes := 8, zero := some (.pointer none) }),
 (88, { k := .sl 340, size := 1, bytes := 24, zero := some (.slice none 0 0) }),
 (90, { k := .st [(0, 87), (1, 88), (2, 3), (3, 4), (4, 3), (5, 3)], size := 6, bytes := 64, zero := some (.agg ⟨[.pointer none, .slice none 0 0, .int .i64 (0), .bool false, .int .i64 (0), .int .i64 (0)]⟩), eq := true }),
 (91, { k := .other, size := 1, bytes := 0, zero := some (.tuple ⟨[.agg ⟨[.int .u32 (0), .int .u32 (0), .int .u32 (0), .int .u64 (0), .int .u64 (0)]⟩, .bool false]⟩) }),
 (93, { k := .ptr 97, size := 1, bytes := 8, zero := some (.pointer none) }),
 (95, { k := .st [(0, 65), (1, 3), (2, 61), (3, 93), (4, 22), (5, 38)], size := 6, bytes := 64, zero := some (.agg ⟨[.pointer none, .int .i64 (0), .slice none 0 0, .pointer none, .int .u32 (0), .int .u64 (0)]⟩), eq := true }),
 (97, { k := .st [(0, 65), (1, 40), (6, 38)], size := 7, bytes := 48, zero := some (.agg ⟨[.pointer none, .int .u32 (0), .int .u32 (0), .int .u32 (0), .int .u64 (0), .int .u64 (0), .int .u64 (0)]⟩), eq := true }),
 (102, { k := .sl 9, size := 1, bytes := 24, zero := some (.slice none 0 0) }),
 (105, { k := .st [(0, 3), (1, 9), (2, 38), (3, 22), (4, 61)], size := 5, bytes := 64, zero := some (.agg ⟨[.int .i64 (0), .string ⟨⟨[]⟩⟩, .int .u64 (0), .int .u32 (0), .slice none 0 0]⟩), eq := true }),
 (107, { k := .st [(0, 3), (1, 9), (2, 38), (3, 22), (4, 61)], size := 5, bytes := 64, zero := some (.agg ⟨[.int .i64 (0), .string ⟨⟨[]⟩⟩, .int .u64 (0), .int .u32 (0), .slice none 0 0]⟩), eq := true }),
 (109, { k := .sl 3, size := 1, bytes := 24, zero := some (.slice none 0 0) }),
 (111, { k := .sl 117, size := 1, bytes := 24, zero := some (.slice none 0 0) }),
 (113, { k := .st [(0, 22), (1, 111), (2, 109), (3, 3), (4, 32)], size := 5, bytes := 72, zero := some (.agg ⟨[.int .u32 (0), .slice none 0 0, .slice none 0 0, .int .i64 (0), .int .i64 (0)]⟩), eq := true }),
 (114, { k := .other, size := 1, bytes := 0, zero := some (.tuple ⟨[.agg ⟨[.int .u32 (0), .slice none 0 0, .slice none 0 0, .int .i64 (0), .int .i64 (0)]⟩, .int .i64 (0)]⟩) }),
 (117, { k := .st [(0, 48), (2, 3), (3, 50)], size := 9, bytes := 88, zero := some (.agg ⟨[.int .u32 (0), .int .u32 (0), .int .i64 (0), .int .u64 (0), .int .i64 (0), .slice none 0 0, .slice none 0 0, .int .u32 (0), .int .u32 (0)]⟩), eq := true }),
 (119, { k := .int .u16, size := 1, bytes := 2, zero := some (.int .u16 (0)) }),
 (120, { k := .sl 48, size := 1, bytes := 24, zero := some (.slice none 0 0) }),
 (124, { k := .ptr 192, size := 1, bytes := 8, zero := some (.pointer none) }),
 (125, { k := .other, size := 1, bytes := 0, zero := some (.tuple ⟨[.pointer none, .slice none 0 0]⟩) }),
 (127, { k := .other, size := 1, bytes := 0, zero := some (.tuple ⟨[.pointer none, .int .i64 (0)]⟩) }),
 (136, { k := .ifc, size := 1, bytes := 16, zero := some .nilIface }),
 (137, { k := .other, size := 1, bytes := 0, zero := some (.tuple ⟨[.int .u64 (0), .nilIface]⟩) }),
 (144, { k := .other, size := 1, bytes := 8, zero := some .nilFunc }),
 (145, { k := .ptr 223, size := 1, bytes := 8, zero := some (.pointer none) }),
 (147, { k := .mp 38 160, size := 1, bytes := 8, zero := some (.map none) }),
 (149, { k := .st [(0, 145), (1, 147), (2, 3), (3, 4), (4, 3), (5, 3)], size := 6, bytes := 48, zero := some (.agg ⟨[.pointer none, .map none, .int .i64 (0), .bool false, .int .i64 (0), .int .i64 (0)]⟩), eq := true }),
 (153, { k := .st [(0, 31), (1, 3), (2, 61), (3, 124), (4, 22), (5, 38)], size := 6, bytes := 64, zero := some (.agg ⟨[.pointer none, .int .i64 (0), .slice none 0 0, .pointer none, .int .u32 (0), .int .u64 (0)]⟩), eq := true }),
 (156, { k := .sl 159, size := 1, bytes := 24, zero := some (.slice none 0 0) }),
 (159, { k := .st [(0, 9), (1, 38)], size := 2, bytes := 24, zero := some (.agg ⟨[.string ⟨⟨[]⟩⟩, .int .u64 (0)]⟩), eq := true }),
 (160, { k := .ptr 230, size := 1, bytes := 8, zero := some (.pointer none) }),
 (162, { k := .ifc, size := 1, bytes := 16, zero := some .nilIface }),
 (164, { k := .sl 71, size := 1, bytes := 24, zero := some (.slice none 0 0) }),
 (166, { k := .other, size := 1, bytes := 8, zero := some .nilFunc }),
 (169, { k := .other, size := 1, bytes := 0, zero := some (.tuple ⟨[.pointer none, .int .i64 (0)]⟩) }),
 (171, { k := .other, size := 1, bytes := 0, zero := some (.tuple ⟨[.slice none 0 0, .int .i64 (0)]⟩) }),
 (175, { k := .sl 177, size := 1, bytes := 24, zero := some (.slice none 0 0) }),
 (177, { k := .st [(0, 9), (1, 38)], size := 2, bytes := 24, zero := some (.agg ⟨[.string ⟨⟨[]⟩⟩, .int .u64 (0)]⟩), eq := true }),
 (179, { k := .other, size := 1, bytes := 8, zero := some .nilFunc }),
 (180, { k := .sl 38, size := 1, bytes := 24, zero := some (.slice none 0 0) }),
 (182, { k := .other, size := 1, bytes := 0, zero := some (.tuple ⟨[.int .i64 (0), .int .i64 (0)]⟩) }),
 (186, { k := .other, size := 1, bytes := 0, zero := some (.tuple ⟨[.slice none 0 0, .int .i64 (0)]⟩) }),
 (192, { k := .st [(0, 31), (1, 40), (6, 38)], size := 7, bytes := 48, zero := some (.agg ⟨[.pointer none, .int .u32 (0), .int .u32 (0), .int .u32 (0), .int .u64 (0), .int .u64 (0), .int .u64 (0)]⟩), eq := true }),
 (193, { k := .other, size := 1, bytes := 0, zero := some (.tuple ⟨[.agg ⟨[.int .u64 (0), .int .i64 (0), .slice none 0 0, .slice none 0 0, .int .u32 (0), .int .u32 (0)]⟩, .int .i64 (0), .int .i64 (0)]⟩) }),
 (196, { k := .other, size := 1, bytes := 0, zero := some (.tuple ⟨[.pointer none, .int .i64 (0)]⟩) }),
 (202, { k := .other, size := 1, bytes := 8, zero := some .nilFunc }),
 (204, { k := .int .u64, size := 1, bytes := 8, zero := some (.int .u64 (0)) }),
 (205, { k := .other, size := 1, bytes := 0, zero := some (.tuple ⟨[.int .u64 (0), .int .u64 (0)]⟩) }),
 (208, { k := .ptr 210, size := 1, bytes := 8, zero := some (.pointer none) }),
 (210, { k := .st [(0, 208), (1, 46)], size := 2, bytes := 32, zero := some (.agg ⟨[.pointer none, .slice none 0 0]⟩), eq := true }),
 (212, { k := .other, size := 1, bytes := 0, zero := some (.tuple ⟨[.int .i64 (0), .nilIface]⟩) }),
 (216, { k := .arr 4 71, size := 4, bytes := 32, zero := some (.agg ⟨[.nilFunc, .nilFunc, .nilFunc, .nilFunc]⟩), eq := true }),
 (220, { k := .mp 9 38, size := 1, bytes := 8, zero := some (.map none) }),
 (221, { k := .sl 246, size := 1, bytes := 24, zero := some (.slice none 0 0) }),
 (223, { k := .st [(0, 220), (1, 220), (2, 221), (3, 38)], size := 4, bytes := 48, zero := some (.agg ⟨[.map none, .map none, .slice none 0 0, .int .u64 (0)]⟩), eq := true }),
 (225, { k := .other, size := 1, bytes := 8, zero := some .nilFunc }),
 (226, { k := .other, size := 1, bytes := 8, zero := some .nilFunc }),
 (228, { k := .sl 256, size := 1, bytes := 24, zero := some (.slice none 0 0) }),
 (230, { k := .st [(0, 46), (1, 46), (2, 228)], size := 3, bytes := 72, zero := some (.agg ⟨[.slice none 0 0, .slice none 0 0, .slice none 0 0]⟩), eq := true }),
 (232, { k := .sl 175, size := 1, bytes := 24, zero := some (.slice none 0 0) }),
 (234, { k := .st [(0, 232), (1, 38)], size := 2, bytes := 32, zero := some (.agg ⟨[.slice none 0 0, .int .u64 (0)]⟩), eq := true }),
 (241, { k := .other, size := 1, bytes := 0, zero := some (.tuple ⟨[.agg ⟨[.int .u64 (0), .int .i64 (0), .slice none 0 0, .slice none 0 0, .int .u32 (0), .int .u32 (0)]⟩, .int .i64 (0), .int .i64 (0)]⟩) }),
 (245, { k := .other, size := 1, bytes := 8, zero := some .nilFunc }),
 (246, { k := .other, size := 1, bytes := 8, zero := some .nilFunc }),
 (249, { k := .other, size := 1, bytes := 8, zero := some .nilFunc }),
 (250, { k := .other, size := 1, bytes := 8, zero := some .nilFunc }),
 (256, { k := .ifc, size := 1, bytes := 16, zero := some .nilIface }),
 (257, { k := .other, size := 1, bytes := 8, zero := some .nilFunc }),
 (261, { k := .ptr 113, size := 1, bytes := 8, zero := some (.pointer none) }),
 (262, { k := .other, size := 1, bytes := 8, zero := some .nilFunc }),
 (263, { k := .arr 6 38, size := 6, bytes := 48, zero := some (.agg ⟨[.int .u64 (0), .int .u64 (0), .int .u64 (0), .int .u64 (0), .int .u64 (0), .int .u64 (0)]⟩), eq := true }),
 (265, { k := .arr 6 3, size := 6, bytes := 48, zero := some (.agg ⟨[.int .i64 (0), .int .i64 (0), .int .i64 (0), .int .i64 (0), .int .i64 (0), .int .i64 (0)]⟩), eq := true }),
 (269, { k := .int .i64, size := 1, bytes := 8, zero := some (.int .i64 (0)) }),
 (270, { k := .int .i64, size := 1, bytes := 8, zero := some (.int .i64 (0)) }),
 (272, { k := .other, size := 1, bytes := 8, zero := some .nilFunc }),
 (273, { k := .ptr 320, size := 1, bytes := 8, zero := some (.pointer none) }),
 (277, { k := .arr 24 5, size := 24, bytes := 24, zero := some (.agg ⟨[.int .u8 (0), .int .u8 (0), .int .u8 (0), .int .u8 (0), .int .u8 (0), .int .u8 (0), .int .u8 (0), .int .u8 (0), .int .u8 (0), .int .u8 (0), .int .u8 (0), .int .u8 (0), .int .u8 (0), .int .u8 (0), .int .u8 (0), .int .u8 (0), .int .u8 (0), .int .u8 (0), .int .u8 (0), .int .u8 (0), .int .u8 (0), .int .u8 (0), .int .u8 (0), .int .u8 (0)]⟩), eq := true }),
 (280, { k := .other, size := 1, bytes := 0, zero := some (.tuple ⟨[.slice none 0 0, .string ⟨⟨[]⟩⟩]⟩) }),
 (282, { k := .other, size := 1, bytes := 0, zero := some (.tuple ⟨[.int .u32 (0), .int .u32 (0)]⟩) }),
 (284, { k := .other, size := 1, bytes := 0, zero := some (.tuple ⟨[.int .u64 (0), .int .u64 (0)]⟩) }),
 (286, { k := .ptr 5, size := 1, bytes := 8, zero := some (.pointer none) }),
 (288, { k := .other, size := 1, bytes := 0, zero := some (.tuple ⟨[.int .u64 (0), .int .i64 (0)]⟩) }),
 (294, { k := .ptr 338, size := 1, bytes := 8, zero := some (.pointer none) }),
 (295, { k := .other, size := 1, bytes := 0, zero := some (.tuple ⟨[.pointer none, .int .i64 (0)]⟩) }),
 (297, { k := .ptr 352, size := 1, bytes := 8, zero := some (.pointer none) }),
 (300, { k := .st [(0, 65), (1, 297), (2, 3)], size := 3, bytes := 24, zero := some (.agg ⟨[.pointer none, .pointer none, .int .i64 (0)]⟩), eq := true }),
 (306, { k := .other, size := 1, bytes := 8, zero := some .nilFunc }),
 (309, { k := .other, size := 1, bytes := 0, zero := some (.tuple ⟨[.int .i64 (0), .int .u32 (0), .int .i64 (0)]⟩) }),
 (311, { k := .arr 4 5, size := 4, bytes := 4, zero := some (.agg ⟨[.int .u8 (0), .int .u8 (0), .int .u8 (0), .int .u8 (0)]⟩), eq := true }),
 (314, { k := .other, size := 1, bytes := 0, zero := some (.tuple ⟨[.int .u64 (0), .bool false]⟩) }),
 (317, { k := .sl 5, size := 1, bytes := 24, zero := some (.slice none 0 0) }),
 (320, { k := .st [(0, 9), (1, 9), (2, 136)], size := 3, bytes := 48, zero := some (.agg ⟨[.string ⟨⟨[]⟩⟩, .string ⟨⟨[]⟩⟩, .nilIface]⟩) }),
 (323, { k := .arr 20 38, size := 20, bytes := 160, zero := some (.agg ⟨[.int .u64 (0), .int .u64 (0), .int .u64 (0), .int .u64 (0), .int .u64 (0), .int .u64 (0), .int .u64 (0), .int .u64 (0), .int .u64 (0), .int .u64 (0), .int .u64 (0), .int .u64 (0), .int .u64 (0), .int .u64 (0), .int .u64 (0), .int .u64 (0), .int .u64 (0), .int .u64 (0), .int .u64 (0), .int .u64 (0)]⟩), eq := true }),
 (324, { k := .arr 65 5, size := 65, bytes := 65, zero := some (.agg ⟨[.int .u8 (0), .int .u8 (0), .int .u8 (0), .int .u8 (0), .int .u8 (0), .int .u8 (0), .int .u8 (0), .int .u8 (0), .int .u8 (0), .int .u8 (0), .int .u8 (0), .int .u8 (0), .int .u8 (0), .int .u8 (0), .int .u8 (0), .int .u8 (0), .int .u8 (0), .int .u8 (0), .int .u8 (0), .int .u8 (0), .int .u8 (0), .int .u8 (0), .int .u8 (0), .int .u8 (0), .int .u8 (0), .int .u8 (0), .int .u8 (0), .int .u8 (0), .int .u8 (0), .int .u8 (0), .int .u8 (0), .int .u8 (0), .int .u8 (0), .int .u8 (0), .int .u8 (0), .int .u8 (0), .int .u8 (0), .int .u8 (0), .int .u8 (0), .int .u8 (0), .int .u8 (0), .int .u8 (0), .int .u8 (0), .int .u8 (0), .int .u8 (0), .int .u8 (0), .int .u8 (0), .int .u8 (0), .int .u8 (0), .int .u8 (0), .int .u8 (0), .int .u8 (0), .int .u8 (0), .int .u8 (0), .int .u8 (0), .int .u8 (0), .int .u8 (0), .int .u8 (0), .int .u8 (0), .int .u8 (0), .int .u8 (0), .int .u8 (0), .int .u8 (0), .int .u8 (0), .int .u8 (0)]⟩), eq := true }),
 (325, { k := .other, size := 1, bytes := 8, zero := some (.pointer none) }),
 (334, { k := .other, size := 1, bytes := 0, zero := some (.tuple ⟨[.int .u64 (0), .int .i64 (0)]⟩) }),
 (336, { k := .sl 345, size := 1, bytes := 24, zero := some (.slice none 0 0) }),
 (338, { k := .st [(0, 46), (1, 336)], size := 2, bytes := 48, zero := some (.agg ⟨[.slice none 0 0, .slice none 0 0]⟩), eq := true }),
 (340, { k := .st [(0, 38), (1, 294)], size := 2, bytes := 16, zero := some (.agg ⟨[.int .u64 (0), .pointer none]⟩), eq := true }),
 (345, { k := .st [(0, 4), (1, 3), (2, 5)], size := 3, bytes := 24, zero := some (.agg ⟨[.bool false, .int .i64 (0), .int .u8 (0)]⟩), eq := true }),
 (346, { k := .other, size := 1, bytes := 0, zero := some (.tuple ⟨[.int .i64 (0), .int .i64 (0)]⟩) }),
 (348, { k := .sl 384, size := 1, bytes := 24, zero := some (.slice none 0 0) }),
 (350, { k := .st [(0, 348), (1, 38)], size := 2, bytes := 32, zero := some (.agg ⟨[.slice none 0 0, .int .u64 (0)]⟩), eq := true }),
 (352, { k := .st [(0, 38), (1, 350), (3, 61), (4, 22)], size := 5, bytes := 72, zero := some (.agg ⟨[.int .u64 (0), .slice none 0 0, .int .u64 (0), .slice none 0 0, .int .u32 (0)]⟩), eq := true }),
 (353, { k := .sl 357, size := 1, bytes := 24, zero := some (.slice none 0 0) }),
 (357, { k := .st [(0, 9), (1, 38)], size := 2, bytes := 24, zero := some (.agg ⟨[.string ⟨⟨[]⟩⟩, .int .u64 (0)]⟩), eq := true }),
 (360, { k := .int .i64, size := 1, bytes := 8, zero := some (.int .i64 (0)) }),
 (361, { k := .other, size := 1, bytes := 0, zero := some (.tuple ⟨[.int .i64 (0), .int .i64 (0)]⟩) }),
 (365, { k := .other, size := 1, bytes := 0, zero := some (.tuple ⟨[.int .i64 (0), .bool false]⟩) }),
 (368, { k := .arr 16 5, size := 16, bytes := 16, zero := some (.agg ⟨[.int .u8 (0), .int .u8 (0), .int .u8 (0), .int .u8 (0), .int .u8 (0), .int .u8 (0), .int .u8 (0), .int .u8 (0), .int .u8 (0), .int .u8 (0), .int .u8 (0), .int .u8 (0), .int .u8 (0), .int .u8 (0), .int .u8 (0), .int .u8 (0)]⟩), eq := true }),
 (370, { k := .other, size := 1, bytes := 8, zero := some .nilFunc }),
 (372, { k := .ptr 374, size := 1, bytes := 8, zero := some (.pointer none) }),
 (374, { k := .st [(0, 9)], size := 1, bytes := 16, zero := some (.agg ⟨[.string ⟨⟨[]⟩⟩]⟩), eq := true }),
 (382, { k := .ptr 350, size := 1, bytes := 8, zero := some (.pointer none) }),
 (384, { k := .st [(0, 9), (1, 38), (2, 38)], size := 3, bytes := 32, zero := some (.agg ⟨[.string ⟨⟨[]⟩⟩, .int .u64 (0), .int .u64 (0)]⟩), eq := true }),
 (385, { k := .other, size := 1, bytes := 0, zero := some (.tuple ⟨[.bool false, .bool false, .bool false, .bool false]⟩) }),
 (388, { k := .int .u64, size := 1, bytes := 8, zero := some (.int .u64 (0)) }),
 (391, { k := .ptr 3, size := 1, bytes := 8, zero := some (.pointer none) }),
 (393, { k := .arr 16 22, size := 16, bytes := 64, zero := some (.agg ⟨[.int .u32 (0), .int .u32 (0), .int .u32 (0), .int .u32 (0), .int .u32 (0), .int .u32 (0), .int .u32 (0), .int .u32 (0), .int .u32 (0), .int .u32 (0), .int .u32 (0), .int .u32 (0), .int .u32 (0), .int .u32 (0), .int .u32 (0), .int .u32 (0)]⟩), eq := true }),
 (396, { k := .arr 32 5, size := 32, bytes := 32, zero := some (.agg ⟨[.int .u8 (0), .int .u8 (0), .int .u8 (0), .int .u8 (0), .int .u8 (0), .int .u8 (0), .int .u8 (0), .int .u8 (0), .int .u8 (0), .int .u8 (0), .int .u8 (0), .int .u8 (0), .int .u8 (0), .int .u8 (0), .int .u8 (0), .int .u8 (0), .int .u8 (0), .int .u8 (0), .int .u8 (0), .int .u8 (0), .int .u8 (0), .int .u8 (0), .int .u8 (0), .int .u8 (0), .int .u8 (0), .int .u8 (0), .int .u8 (0), .int .u8 (0), .int .u8 (0), .int .u8 (0), .int .u8 (0), .int .u8 (0)]⟩), eq := true }),
 (397, { k := .arr 64 5, size := 64, bytes := 64, zero := some (.agg ⟨[.int .u8 (0), .int .u8 (0), .int .u8 (0), .int .u8 (0), .int .u8 (0), .int .u8 (0), .int .u8 (0), .int .u8 (0), .int .u8 (0), .int .u8 (0), .int .u8 (0), .int .u8 (0), .int .u8 (0), .int .u8 (0), .int .u8 (0), .int .u8 (0), .int .u8 (0), .int .u8 (0), .int .u8 (0), .int .u8 (0), .int .u8 (0), .int .u8 (0), .int .u8 (0), .int .u8 (0), .int .u8 (0), .int .u8 (0), .int .u8 (0), .int .u8 (0), .int .u8 (0), .int .u8 (0), .int .u8 (0), .int .u8 (0), .int .u8 (0), .int .u8 (0), .int .u8 (0), .int .u8 (0), .int .u8 (0), .int .u8 (0), .int .u8 (0), .int .u8 (0), .int .u8 (0), .int .u8 (0), .int .u8 (0), .int .u8 (0), .int .u8 (0), .int .u8 (0), .int .u8 (0), .int .u8 (0), .int .u8 (0), .int .u8 (0), .int .u8 (0), .int .u8 (0), .int .u8 (0), .int .u8 (0), .int .u8 (0), .int .u8 (0), .int .u8 (0), .int .u8 (0), .int .u8 (0), .int .u8 (0), .int .u8 (0), .int .u8 (0), .int .u8 (0), .int .u8 (0)]⟩), eq := true }),
 (401, { k := .ptr 388, size := 1, bytes := 8, zero := some (.pointer none) }),
 (404, { k := .other, size := 1, bytes := 0, zero := some (.tuple ⟨[.slice none 0 0, .bool false]⟩) }),
 (406, { k := .other, size := 1, bytes := 0, zero := some (.tuple ⟨[.slice none 0 0, .bool false]⟩) })]
theorem ttOk : TOk Go.Proofs.Tryz.prog tt := TOk.of_eq (by kernel_rfl)
theorem ttBytes : TBytes tt := TBytes.of_all (by decide)
end Go.Proofs.YtgfkepebfaiepaaGreatDoor.Ax

namespace Go.Proofs
open Go.Shelf
def Tryz.idxfn_ren : Go.Shelf.Ren := ⟨fun | 15 => 292 | 20 => 320 | n => n, fun | 9 => 9 | 23 => 370 | 3 => 3 | 4 => 4 | 0 => 0 | 21 => 21 | n => n, fun | n => n⟩
theorem Tryz.idxfn : Go.Proofs.LaysGw.n15 Tryz.prog Tryz.idxfn_ren := {
 mixed := by kernel_rfl
 f15 := Tryz.func292.trans (congrArg some (by kernel_rfl))
 f20 := Tryz.func320.trans (congrArg some (by kernel_rfl))
 t0 := Tryz.underlying0
 a0 := Tryz.isAgg0
 z0 := Tryz.sizeOf0
 v0 := Tryz.zeroValue0
 i0 := by kernel_rfl
 t3 := Tryz.underlying3
 a3 := Tryz.isAgg3
 z3 := Tryz.sizeOf3
 v3 := Tryz.zeroValue3
 i3 := by kernel_rfl
 t4 := Tryz.underlying4
 a4 := Tryz.isAgg4
 z4 := Tryz.sizeOf4
 v4 := Tryz.zeroValue4
 i4 := by kernel_rfl
 t9 := Tryz.underlying9
 a9 := Tryz.isAgg9
 z9 := Tryz.sizeOf9
 v9 := Tryz.zeroValue9
 i9 := by kernel_rfl
 t21 := Tryz.underlying21
 a21 := Tryz.isAgg21
 z21 := Tryz.sizeOf21
 v21 := Tryz.zeroValue21
 i21 := by kernel_rfl
 t23 := Tryz.underlying370
 a23 := Tryz.isAgg370
 z23 := Tryz.sizeOf370
 v23 := Tryz.zeroValue370
 i23 := by kernel_rfl }
def Tryz.mclone_ren : Go.Shelf.Ren := ⟨fun | 5 => 163 | 7 => 234 | n => n, fun | 23 => 220 | 25 => 9 | 3 => 38 | 4 => 4 | 20 => 20 | n => n, fun | n => n⟩
theorem Tryz.mclone : Go.Proofs.SlLaysW.n5 Tryz.prog Tryz.mclone_ren := {
 mixed := by kernel_rfl
 f5 := ⟨Tryz.f163.name, by decide, Tryz.func163.trans (congrArg some (by kernel_rfl))⟩
 f7 := Tryz.func234.trans (congrArg some (by kernel_rfl))
 t4 := Tryz.underlying4
 a4 := Tryz.isAgg4
 z4 := Tryz.sizeOf4
 v4 := Tryz.zeroValue4
 t20 := Tryz.underlying20
 a20 := Tryz.isAgg20
 z20 := Tryz.sizeOf20
 v20 := Tryz.zeroValue20
 t23 := Tryz.underlying220
 a23 := Tryz.isAgg220
 z23 := Tryz.sizeOf220
 v23 := Tryz.zeroValue220 }
end Go.Proofs

namespace Go.Proofs
open Go.Shelf
def Tryz.keysN_ren : Go.Shelf.Ren := ⟨fun | 7 => 151 | 10 => 215 | n => n, fun | 23 => 220 | 26 => 9 | 3 => 38 | 28 => 226 | 0 => 0 | 27 => 225 | 33 => 272 | 4 => 4 | n => n, fun | n => n⟩
theorem Tryz.keysN : Go.Proofs.SlLaysZ.n7 Tryz.prog Tryz.keysN_ren := {
 mixed := by kernel_rfl
 f7 := ⟨Tryz.f151.name, by decide, Tryz.func151.trans (congrArg some (by kernel_rfl))⟩
 f10 := ⟨Tryz.f215.name, by decide, Tryz.func215.trans (congrArg some (by kernel_rfl))⟩
 t0 := Tryz.underlying0
 a0 := Tryz.isAgg0
 z0 := Tryz.sizeOf0
 v0 := Tryz.zeroValue0
 t4 := Tryz.underlying4
 a4 := Tryz.isAgg4
 z4 := Tryz.sizeOf4
 v4 := Tryz.zeroValue4
 t23 := Tryz.underlying220
 a23 := Tryz.isAgg220
 z23 := Tryz.sizeOf220
 v23 := Tryz.zeroValue220
 t26 := Tryz.underlying9
 a26 := Tryz.isAgg9
 z26 := Tryz.sizeOf9
 v26 := Tryz.zeroValue9
 t27 := Tryz.underlying225
 a27 := Tryz.isAgg225
 z27 := Tryz.sizeOf225
 v27 := Tryz.zeroValue225
 t28 := Tryz.underlying226
 a28 := Tryz.isAgg226
 z28 := Tryz.sizeOf226
 v28 := Tryz.zeroValue226
 t33 := Tryz.underlying272
 a33 := Tryz.isAgg272
 z33 := Tryz.sizeOf272
 v33 := Tryz.zeroValue272 }
def Tryz.sortedN_ren : Go.Shelf.Ren := ⟨fun | 6 => 150 | 8 => 213 | 9 => 214 | 11 => 260 | 13 => 238 | 12 => 261 | 23 => 288 | 24 => 251 | 14 => 296 | 15 => 297 | 16 => 298 | 17 => 299 | 18 => 300 | 19 => 301 | 20 => 302 | 21 => 303 | 22 => 304 | 25 => 322 | 26 => 315 | 27 => 316 | 28 => 323 | 29 => 324 | 30 => 325 | 31 => 330 | n => n, fun | 26 => 9 | 28 => 226 | 24 => 102 | 0 => 0 | 3 => 3 | 37 => 204 | 48 => 22 | 50 => 38 | 4 => 4 | 40 => 361 | 39 => 360 | 45 => 365 | 5 => 5 | 9 => 9 | 51 => 388 | 55 => 391 | 57 => 401 | 58 => 346 | 33 => 272 | n => n, fun | n => n⟩
theorem Tryz.sortedN : Go.Proofs.SlLaysZ.n6 Tryz.prog Tryz.sortedN_ren := {
 mixed := by kernel_rfl
 f6 := ⟨Tryz.f150.name, by decide, Tryz.func150.trans (congrArg some (by kernel_rfl))⟩
 f8 := ⟨Tryz.f213.name, by decide, Tryz.func213.trans (congrArg some (by kernel_rfl))⟩
 f11 := ⟨Tryz.f260.name, by decide, Tryz.func260.trans (congrArg some (by kernel_rfl))⟩
 t0 := Tryz.underlying0
 a0 := Tryz.isAgg0
 z0 := Tryz.sizeOf0
 v0 := Tryz.zeroValue0
 t24 := Tryz.underlying102
 a24 := Tryz.isAgg102
 z24 := Tryz.sizeOf102
 v24 := Tryz.zeroValue102
 t26 := Tryz.underlying9
 a26 := Tryz.isAgg9
 z26 := Tryz.sizeOf9
 v26 := Tryz.zeroValue9
 t28 := Tryz.underlying226
 a28 := Tryz.isAgg226
 z28 := Tryz.sizeOf226
 v28 := Tryz.zeroValue226
 i26 := by kernel_rfl }
def Tryz.sortN_ren : Go.Shelf.Ren := ⟨fun | 6 => 214 | 8 => 238 | 9 => 261 | 19 => 288 | 20 => 251 | 21 => 296 | 22 => 297 | 23 => 298 | 24 => 299 | 25 => 300 | 26 => 301 | 27 => 302 | 28 => 303 | 29 => 304 | 36 => 322 | 31 => 315 | 32 => 316 | 37 => 323 | 38 => 324 | 39 => 325 | 41 => 330 | n => n, fun | 27 => 102 | 29 => 9 | 3 => 3 | 32 => 204 | 26 => 102 | 0 => 0 | 44 => 22 | 46 => 38 | 4 => 4 | 36 => 361 | 35 => 360 | 41 => 365 | 5 => 5 | 9 => 9 | 53 => 388 | 57 => 391 | 63 => 401 | 64 => 346 | n => n, fun | n => n⟩
theorem Tryz.sortN : Go.Proofs.SlLaysM.n6 Tryz.prog Tryz.sortN_ren := {
 mixed := by kernel_rfl
 f6 := ⟨Tryz.f214.name, by decide, Tryz.func214.trans (congrArg some (by kernel_rfl))⟩
 f8 := Tryz.func238.trans (congrArg some (by kernel_rfl))
 f9 := ⟨Tryz.f261.name, by decide, Tryz.func261.trans (congrArg some (by kernel_rfl))⟩
 f19 := Tryz.func288.trans (congrArg some (by kernel_rfl))
 f20 := Tryz.func251.trans (congrArg some (by kernel_rfl))
 f21 := ⟨Tryz.f296.name, by decide, Tryz.func296.trans (congrArg some (by kernel_rfl))⟩
 f22 := ⟨Tryz.f297.name, by decide, Tryz.func297.trans (congrArg some (by kernel_rfl))⟩
 f23 := ⟨Tryz.f298.name, by decide, Tryz.func298.trans (congrArg some (by kernel_rfl))⟩
 f24 := ⟨Tryz.f299.name, by decide, Tryz.func299.trans (congrArg some (by kernel_rfl))⟩
 f25 := ⟨Tryz.f300.name, by decide, Tryz.func300.trans (congrArg some (by kernel_rfl))⟩
 f26 := ⟨Tryz.f301.name, by decide, Tryz.func301.trans (congrArg some (by kernel_rfl))⟩
 f27 := ⟨Tryz.f302.name, by decide, Tryz.func302.trans (congrArg some (by kernel_rfl))⟩
 f28 := ⟨Tryz.f303.name, by decide, Tryz.func303.trans (congrArg some (by kernel_rfl))⟩
 f29 := ⟨Tryz.f304.name, by decide, Tryz.func304.trans (congrArg some (by kernel_rfl))⟩
 f31 := Tryz.func315.trans (congrArg some (by kernel_rfl))
 f32 := Tryz.func316.trans (congrArg some (by kernel_rfl))
 f36 := ⟨Tryz.f322.name, by decide, Tryz.func322.trans (congrArg some (by kernel_rfl))⟩
 f37 := ⟨Tryz.f323.name, by decide, Tryz.func323.trans (congrArg some (by kernel_rfl))⟩
 f38 := ⟨Tryz.f324.name, by decide, Tryz.func324.trans (congrArg some (by kernel_rfl))⟩
 f39 := ⟨Tryz.f325.name, by decide, Tryz.func325.trans (congrArg some (by kernel_rfl))⟩
 f41 := ⟨Tryz.f330.name, by decide, Tryz.func330.trans (congrArg some (by kernel_rfl))⟩
 t0 := Tryz.underlying0
 a0 := Tryz.isAgg0
 z0 := Tryz.sizeOf0
 v0 := Tryz.zeroValue0
 t3 := Tryz.underlying3
 a3 := Tryz.isAgg3
 z3 := Tryz.sizeOf3
 v3 := Tryz.zeroValue3
 t4 := Tryz.underlying4
 a4 := Tryz.isAgg4
 z4 := Tryz.sizeOf4
 v4 := Tryz.zeroValue4
 t5 := Tryz.underlying5
 a5 := Tryz.isAgg5
 z5 := Tryz.sizeOf5
 v5 := Tryz.zeroValue5
 t9 := Tryz.underlying9
 a9 := Tryz.isAgg9
 z9 := Tryz.sizeOf9
 v9 := Tryz.zeroValue9
 t26 := Tryz.underlying102
 a26 := Tryz.isAgg102
 z26 := Tryz.sizeOf102
 v26 := Tryz.zeroValue102
 t27 := Tryz.underlying102
 a27 := Tryz.isAgg102
 z27 := Tryz.sizeOf102
 v27 := Tryz.zeroValue102
 t29 := Tryz.underlying9
 a29 := Tryz.isAgg9
 z29 := Tryz.sizeOf9
 v29 := Tryz.zeroValue9
 t32 := Tryz.underlying204
 a32 := Tryz.isAgg204
 z32 := Tryz.sizeOf204
 v32 := Tryz.zeroValue204
 t35 := Tryz.underlying360
 a35 := Tryz.isAgg360
 z35 := Tryz.sizeOf360
 v35 := Tryz.zeroValue360
 t36 := Tryz.underlying361
 a36 := Tryz.isAgg361
 z36 := Tryz.sizeOf361
 v36 := Tryz.zeroValue361
 t41 := Tryz.underlying365
 a41 := Tryz.isAgg365
 z41 := Tryz.sizeOf365
 v41 := Tryz.zeroValue365
 t44 := Tryz.underlying22
 a44 := Tryz.isAgg22
 z44 := Tryz.sizeOf22
 v44 := Tryz.zeroValue22
 t46 := Tryz.underlying38
 a46 := Tryz.isAgg38
 z46 := Tryz.sizeOf38
 v46 := Tryz.zeroValue38
 t53 := Tryz.underlying388
 a53 := Tryz.isAgg388
 z53 := Tryz.sizeOf388
 v53 := Tryz.zeroValue388
 t57 := Tryz.underlying391
 a57 := Tryz.isAgg391
 z57 := Tryz.sizeOf391
 v57 := Tryz.zeroValue391
 t63 := Tryz.underlying401
 a63 := Tryz.isAgg401
 z63 := Tryz.sizeOf401
 v63 := Tryz.zeroValue401
 t64 := Tryz.underlying346
 a64 := Tryz.isAgg346
 z64 := Tryz.sizeOf346
 v64 := Tryz.zeroValue346 }
def Tryz.bitsLen_ren : Go.Shelf.Ren := ⟨fun | 125 => 238 | 128 => 288 | 129 => 251 | n => n, fun | 46 => 204 | 3 => 3 | 51 => 22 | 53 => 38 | 4 => 4 | 5 => 5 | 9 => 9 | n => n, fun | n => n⟩
theorem Tryz.bitsLen : Go.Proofs.Lays.n125 Tryz.prog Tryz.bitsLen_ren := {
 mixed := by kernel_rfl
 f125 := Tryz.func238.trans (congrArg some (by kernel_rfl))
 f128 := Tryz.func288.trans (congrArg some (by kernel_rfl))
 f129 := Tryz.func251.trans (congrArg some (by kernel_rfl))
 t3 := Tryz.underlying3
 a3 := Tryz.isAgg3
 z3 := Tryz.sizeOf3
 v3 := Tryz.zeroValue3
 t4 := Tryz.underlying4
 a4 := Tryz.isAgg4
 z4 := Tryz.sizeOf4
 v4 := Tryz.zeroValue4
 t5 := Tryz.underlying5
 a5 := Tryz.isAgg5
 z5 := Tryz.sizeOf5
 v5 := Tryz.zeroValue5
 t9 := Tryz.underlying9
 a9 := Tryz.isAgg9
 z9 := Tryz.sizeOf9
 v9 := Tryz.zeroValue9
 t46 := Tryz.underlying204
 a46 := Tryz.isAgg204
 z46 := Tryz.sizeOf204
 v46 := Tryz.zeroValue204
 t51 := Tryz.underlying22
 a51 := Tryz.isAgg22
 z51 := Tryz.sizeOf22
 v51 := Tryz.zeroValue22
 t53 := Tryz.underlying38
 a53 := Tryz.isAgg38
 z53 := Tryz.sizeOf38
 v53 := Tryz.zeroValue38 }
end Go.Proofs

namespace Go.Proofs
open Go.Shelf
def Tryz.toerr_ren : Go.Shelf.Ren := ⟨fun | 245 => 129 | 279 => 191 | 280 => 192 | 281 => 193 | 282 => 194 | 316 => 247 | 171 => 249 | 205 => 248 | 243 => 293 | 246 => 321 | 283 => 195 | 284 => 196 | 285 => 197 | 286 => 198 | 129 => 251 | 317 => 250 | 318 => 252 | 319 => 253 | 320 => 254 | 337 => 294 | 338 => 295 | n => n, fun | 9 => 9 | 3 => 3 | 75 => 136 | 167 => 270 | 4 => 4 | 168 => 273 | 210 => 320 | 37 => 46 | 0 => 0 | 127 => 286 | 145 => 374 | 143 => 372 | 2 => 2 | 171 => 277 | 53 => 38 | 5 => 5 | 173 => 280 | 212 => 323 | 51 => 22 | 20 => 20 | 213 => 324 | 46 => 204 | 232 => 396 | 233 => 397 | 80 => 214 | n => n, fun | 15 => 1 | 16 => 2 | 17 => 3 | 18 => 6 | 19 => 7 | n => n⟩
theorem Tryz.toerr : Go.Proofs.LaysC.n245 Tryz.prog Tryz.toerr_ren := {
 mixed := by kernel_rfl
 f129 := Tryz.func251.trans (congrArg some (by kernel_rfl))
 f171 := Tryz.func249.trans (congrArg some (by kernel_rfl))
 f205 := Tryz.func248.trans (congrArg some (by kernel_rfl))
 f243 := Tryz.func293.trans (congrArg some (by kernel_rfl))
 f245 := Tryz.func129.trans (congrArg some (by kernel_rfl))
 f246 := Tryz.func321.trans (congrArg some (by kernel_rfl))
 f279 := Tryz.func191.trans (congrArg some (by kernel_rfl))
 f280 := Tryz.func192.trans (congrArg some (by kernel_rfl))
 f281 := Tryz.func193.trans (congrArg some (by kernel_rfl))
 f282 := Tryz.func194.trans (congrArg some (by kernel_rfl))
 f283 := Tryz.func195.trans (congrArg some (by kernel_rfl))
 f284 := Tryz.func196.trans (congrArg some (by kernel_rfl))
 f285 := Tryz.func197.trans (congrArg some (by kernel_rfl))
 f286 := Tryz.func198.trans (congrArg some (by kernel_rfl))
 f316 := Tryz.func247.trans (congrArg some (by kernel_rfl))
 f317 := Tryz.func250.trans (congrArg some (by kernel_rfl))
 f318 := Tryz.func252.trans (congrArg some (by kernel_rfl))
 f319 := Tryz.func253.trans (congrArg some (by kernel_rfl))
 f320 := Tryz.func254.trans (congrArg some (by kernel_rfl))
 f337 := Tryz.func294.trans (congrArg some (by kernel_rfl))
 f338 := Tryz.func295.trans (congrArg some (by kernel_rfl))
 t0 := Tryz.underlying0
 a0 := Tryz.isAgg0
 z0 := Tryz.sizeOf0
 v0 := Tryz.zeroValue0
 t2 := Tryz.underlying2
 a2 := Tryz.isAgg2
 z2 := Tryz.sizeOf2
 v2 := Tryz.zeroValue2
 t3 := Tryz.underlying3
 a3 := Tryz.isAgg3
 z3 := Tryz.sizeOf3
 v3 := Tryz.zeroValue3
 t4 := Tryz.underlying4
 a4 := Tryz.isAgg4
 z4 := Tryz.sizeOf4
 v4 := Tryz.zeroValue4
 t5 := Tryz.underlying5
 a5 := Tryz.isAgg5
 z5 := Tryz.sizeOf5
 v5 := Tryz.zeroValue5
 t9 := Tryz.underlying9
 a9 := Tryz.isAgg9
 z9 := Tryz.sizeOf9
 v9 := Tryz.zeroValue9
 t20 := Tryz.underlying20
 a20 := Tryz.isAgg20
 z20 := Tryz.sizeOf20
 v20 := Tryz.zeroValue20
 t37 := Tryz.underlying46
 a37 := Tryz.isAgg46
 z37 := Tryz.sizeOf46
 v37 := Tryz.zeroValue46
 t46 := Tryz.underlying204
 a46 := Tryz.isAgg204
 z46 := Tryz.sizeOf204
 v46 := Tryz.zeroValue204
 t51 := Tryz.underlying22
 a51 := Tryz.isAgg22
 z51 := Tryz.sizeOf22
 v51 := Tryz.zeroValue22
 t53 := Tryz.underlying38
 a53 := Tryz.isAgg38
 z53 := Tryz.sizeOf38
 v53 := Tryz.zeroValue38
 t75 := Tryz.underlying136
 a75 := Tryz.isAgg136
 z75 := Tryz.sizeOf136
 v75 := Tryz.zeroValue136
 t127 := Tryz.underlying286
 a127 := Tryz.isAgg286
 z127 := Tryz.sizeOf286
 v127 := Tryz.zeroValue286
 t143 := Tryz.underlying372
 a143 := Tryz.isAgg372
 z143 := Tryz.sizeOf372
 v143 := Tryz.zeroValue372
 t145 := Tryz.underlying374
 a145 := Tryz.isAgg374
 z145 := Tryz.sizeOf374
 v145 := Tryz.zeroValue374
 t167 := Tryz.underlying270
 a167 := Tryz.isAgg270
 z167 := Tryz.sizeOf270
 v167 := Tryz.zeroValue270
 t168 := Tryz.underlying273
 a168 := Tryz.isAgg273
 z168 := Tryz.sizeOf273
 v168 := Tryz.zeroValue273
 t171 := Tryz.underlying277
 a171 := Tryz.isAgg277
 z171 := Tryz.sizeOf277
 v171 := Tryz.zeroValue277
 t173 := Tryz.underlying280
 a173 := Tryz.isAgg280
 z173 := Tryz.sizeOf280
 v173 := Tryz.zeroValue280
 t210 := Tryz.underlying320
 a210 := Tryz.isAgg320
 z210 := Tryz.sizeOf320
 v210 := Tryz.zeroValue320
 t212 := Tryz.underlying323
 a212 := Tryz.isAgg323
 z212 := Tryz.sizeOf323
 v212 := Tryz.zeroValue323
 t213 := Tryz.underlying324
 a213 := Tryz.isAgg324
 z213 := Tryz.sizeOf324
 t232 := Tryz.underlying396
 a232 := Tryz.isAgg396
 z232 := Tryz.sizeOf396
 v232 := Tryz.zeroValue396
 t233 := Tryz.underlying397
 a233 := Tryz.isAgg397
 z233 := Tryz.sizeOf397
 v233 := Tryz.zeroValue397
 g15 := by kernel_rfl
 g16 := by kernel_rfl
 g17 := by kernel_rfl
 g18 := by kernel_rfl
 g19 := by kernel_rfl
 t80 := Tryz.underlying214
 a80 := Tryz.isAgg214
 z80 := Tryz.sizeOf214
 v80 := Tryz.zeroValue214
 i0 := by kernel_rfl
 i2 := by kernel_rfl
 i3 := by kernel_rfl
 i4 := by kernel_rfl
 i5 := by kernel_rfl
 i9 := by kernel_rfl
 i20 := by kernel_rfl
 i37 := by kernel_rfl
 i46 := by kernel_rfl
 i51 := by kernel_rfl
 i53 := by kernel_rfl
 i75 := by kernel_rfl
 i80 := by kernel_rfl
 i127 := by kernel_rfl
 i143 := by kernel_rfl
 i145 := by kernel_rfl
 i167 := by kernel_rfl
 i168 := by kernel_rfl
 i171 := by kernel_rfl
 i173 := by kernel_rfl
 i210 := by kernel_rfl
 i212 := by kernel_rfl
 i232 := by kernel_rfl
 i233 := by kernel_rfl
 m15 := by kernel_rfl
 m16 := by kernel_rfl
 m17 := by kernel_rfl
 m18 := by kernel_rfl
 m19 := by kernel_rfl
 c0 := by kernel_rfl
 c2 := by kernel_rfl
 c3 := by kernel_rfl
 c4 := by kernel_rfl
 c5 := by kernel_rfl
 c9 := by kernel_rfl
 c20 := by kernel_rfl
 c37 := by kernel_rfl
 c46 := by kernel_rfl
 c51 := by kernel_rfl
 c53 := by kernel_rfl
 c75 := by kernel_rfl
 c80 := by kernel_rfl
 c127 := by kernel_rfl
 c143 := by kernel_rfl
 c145 := by kernel_rfl
 c167 := by kernel_rfl
 c168 := by kernel_rfl
 c171 := by kernel_rfl
 c173 := by kernel_rfl
 c210 := by kernel_rfl
 c212 := by kernel_rfl
 c213 := by kernel_rfl
 c232 := by kernel_rfl
 c233 := by kernel_rfl }
end Go.Proofs

namespace Go.Proofs.YtgfkepebfaiepaaGreatDoor.Ax
def sch188 : List (Nat × Sched) := [(0, .take 0 (.take 1 (.take 2 (.take 3 (.take 4 (.take 7 (.two 5 (.two 6 (.two 8 (.take 9 (.take 10 (.take 11 (.take 12 (.take 13 (.take 14 (.take 15 (.done)))))))) (.take 9 (.take 10 (.take 11 (.take 8 (.take 12 (.take 13 (.take 14 (.take 15 (.done)))))))))) (.take 9 (.take 10 (.take 11 (.take 6 (.take 8 (.take 12 (.take 13 (.take 14 (.take 15 (.done))))))))))) (.take 9 (.take 10 (.take 11 (.take 5 (.take 6 (.take 8 (.take 12 (.take 13 (.take 14 (.take 15 (.done))))))))))))))))))]
def sch206 : List (Nat × Sched) := [(3, .take 0 (.take 1 (.take 2 (.take 3 (.take 4 (.take 5 (.take 6 (.take 7 (.take 8 (.take 9 (.take 10 (.done))))))))))))]
def sch205 : List (Nat × Sched) := [(1, .take 4 (.take 0 (.take 1 (.take 2 (.take 3 (.take 5 (.take 6 (.take 7 (.take 8 (.take 9 (.take 10 (.done)))))))))))), (3, .take 4 (.two 0 (.take 1 (.take 2 (.two 3 (.take 5 (.take 6 (.done))) (.take 5 (.take 3 (.take 6 (.done))))))) (.take 5 (.take 0 (.take 1 (.take 2 (.take 3 (.take 6 (.done)))))))))]
def sch22 : List (Nat × Sched) := [(7, .take 0 (.take 1 (.take 2 (.take 3 (.take 5 (.two 4 (.take 6 (.take 7 (.take 8 (.take 9 (.take 10 (.done)))))) (.take 6 (.take 4 (.take 7 (.take 8 (.take 9 (.take 10 (.done)))))))))))))]
def sch62 : List (Nat × Sched) := [(3, .take 0 (.take 1 (.take 2 (.take 3 (.take 4 (.take 5 (.take 6 (.take 7 (.take 8 (.take 9 (.take 10 (.take 11 (.take 12 (.take 13 (.done))))))))))))))), (5, .take 0 (.take 2 (.take 3 (.take 4 (.take 5 (.two 1 (.take 6 (.take 7 (.take 8 (.take 9 (.take 10 (.done)))))) (.take 6 (.two 1 (.take 7 (.take 8 (.take 9 (.take 10 (.done))))) (.take 7 (.take 8 (.take 1 (.take 9 (.take 10 (.done)))))))))))))), (8, .take 0 (.take 1 (.take 2 (.take 4 (.take 5 (.take 6 (.take 7 (.take 10 (.two 3 (.take 8 (.take 9 (.take 11 (.take 12 (.done))))) (.take 8 (.two 3 (.take 9 (.take 11 (.take 12 (.done)))) (.take 9 (.take 3 (.take 11 (.take 12 (.done)))))))))))))))), (11, .take 0 (.take 1 (.take 2 (.take 3 (.take 4 (.take 5 (.take 6 (.take 7 (.take 8 (.take 9 (.take 10 (.take 11 (.take 12 (.done))))))))))))))]
def sch316 : List (Nat × Sched) := [(1, .take 0 (.take 1 (.take 2 (.take 3 (.take 4 (.take 5 (.take 6 (.take 7 (.take 8 (.take 9 (.done))))))))))), (2, .take 0 (.take 1 (.take 2 (.take 3 (.take 4 (.take 5 (.take 6 (.take 7 (.take 8 (.take 9 (.done))))))))))), (3, .take 0 (.take 1 (.take 2 (.take 3 (.take 4 (.take 5 (.take 6 (.take 7 (.take 8 (.take 9 (.done)))))))))))]
def sch183 : List (Nat × Sched) := [(2, .take 0 (.take 2 (.take 1 (.take 3 (.take 4 (.done))))))]
def sch123 : List (Nat × Sched) := [(10, .take 0 (.take 1 (.take 4 (.two 2 (.two 3 (.take 5 (.take 6 (.take 7 (.take 8 (.take 9 (.done)))))) (.take 5 (.take 3 (.take 6 (.take 7 (.take 8 (.take 9 (.done)))))))) (.take 5 (.take 2 (.take 3 (.take 6 (.take 7 (.take 8 (.take 9 (.done))))))))))))]
def sch170 : List (Nat × Sched) := [(6, .take 0 (.take 1 (.take 2 (.take 3 (.take 4 (.take 5 (.take 6 (.take 7 (.take 8 (.take 9 (.done))))))))))), (11, .take 0 (.take 1 (.take 2 (.take 3 (.take 4 (.take 5 (.take 6 (.take 7 (.take 8 (.take 9 (.done)))))))))))]
def sch281 : List (Nat × Sched) := [(10, .take 0 (.take 1 (.take 2 (.take 3 (.take 4 (.take 5 (.take 6 (.take 7 (.take 8 (.take 9 (.take 10 (.take 11 (.take 12 (.take 13 (.take 14 (.take 15 (.take 16 (.take 17 (.take 18 (.take 19 (.done)))))))))))))))))))))]
def sch280 : List (Nat × Sched) := [(10, .take 0 (.take 1 (.take 2 (.take 3 (.take 4 (.take 5 (.take 6 (.take 7 (.take 8 (.take 9 (.take 10 (.take 11 (.take 12 (.take 13 (.take 14 (.take 15 (.take 16 (.take 17 (.take 18 (.take 19 (.done)))))))))))))))))))))]
def sch279 : List (Nat × Sched) := [(4, .take 0 (.take 1 (.take 2 (.take 3 (.take 4 (.take 5 (.take 6 (.take 7 (.take 8 (.take 9 (.take 10 (.take 11 (.take 12 (.take 13 (.take 14 (.done)))))))))))))))), (6, .take 0 (.take 1 (.take 2 (.take 3 (.take 4 (.take 5 (.take 6 (.take 7 (.take 8 (.take 9 (.take 10 (.take 11 (.take 12 (.take 13 (.take 14 (.take 15 (.take 16 (.take 17 (.done)))))))))))))))))))]
def sch329 : List (Nat × Sched) := [(1, .take 0 (.take 1 (.take 2 (.take 3 (.take 4 (.take 5 (.take 6 (.take 7 (.take 8 (.done))))))))))]
def sch284 : List (Nat × Sched) := [(5, .take 0 (.take 1 (.take 2 (.take 3 (.take 4 (.take 5 (.take 6 (.take 7 (.take 8 (.take 9 (.take 10 (.take 11 (.take 12 (.take 13 (.take 14 (.take 15 (.done))))))))))))))))), (11, .take 0 (.take 1 (.take 2 (.take 3 (.take 4 (.take 5 (.take 6 (.take 7 (.take 8 (.take 9 (.take 10 (.take 11 (.take 12 (.take 13 (.take 14 (.take 15 (.take 16 (.take 17 (.done))))))))))))))))))), (16, .take 0 (.take 1 (.take 2 (.take 3 (.take 4 (.take 5 (.take 6 (.take 7 (.take 8 (.take 9 (.take 10 (.done)))))))))))), (17, .take 0 (.take 1 (.take 2 (.take 3 (.take 4 (.take 5 (.take 6 (.take 7 (.take 8 (.take 9 (.take 10 (.take 11 (.take 12 (.take 13 (.take 14 (.take 15 (.take 16 (.take 17 (.done))))))))))))))))))), (22, .take 0 (.take 1 (.take 2 (.take 3 (.take 4 (.take 5 (.take 6 (.take 7 (.take 8 (.take 9 (.take 10 (.done)))))))))))), (23, .take 0 (.take 1 (.take 2 (.take 3 (.take 4 (.take 5 (.take 6 (.take 7 (.take 8 (.take 9 (.take 10 (.take 11 (.take 12 (.take 13 (.take 14 (.take 15 (.take 16 (.take 17 (.done)))))))))))))))))))]
def sch286 : List (Nat × Sched) := [(1, .take 0 (.take 1 (.take 2 (.take 3 (.take 4 (.take 5 (.take 6 (.take 7 (.take 8 (.take 9 (.take 10 (.take 11 (.take 12 (.take 13 (.take 14 (.take 15 (.done))))))))))))))))), (3, .take 0 (.take 1 (.take 2 (.take 3 (.take 4 (.take 5 (.take 6 (.take 7 (.take 8 (.take 9 (.take 10 (.take 11 (.take 12 (.take 13 (.take 14 (.done)))))))))))))))), (5, .take 0 (.take 1 (.take 2 (.take 3 (.take 4 (.take 5 (.take 6 (.take 7 (.take 8 (.take 9 (.take 10 (.take 11 (.take 12 (.take 13 (.done))))))))))))))), (8, .take 0 (.take 1 (.take 2 (.take 3 (.take 4 (.take 5 (.take 6 (.take 7 (.take 8 (.take 9 (.take 10 (.take 11 (.take 12 (.take 13 (.take 14 (.take 15 (.done)))))))))))))))))]
def sch287 : List (Nat × Sched) := [(1, .take 0 (.take 1 (.take 2 (.take 3 (.take 4 (.take 5 (.take 6 (.take 7 (.take 8 (.take 9 (.take 10 (.take 11 (.take 12 (.take 13 (.take 14 (.take 15 (.done))))))))))))))))), (3, .take 0 (.take 1 (.take 2 (.take 3 (.take 4 (.take 5 (.take 6 (.take 7 (.take 8 (.take 9 (.take 10 (.take 11 (.take 12 (.take 13 (.done))))))))))))))), (5, .take 0 (.take 1 (.take 2 (.take 3 (.take 4 (.take 5 (.take 6 (.take 7 (.take 8 (.take 9 (.take 10 (.take 11 (.take 12 (.take 13 (.take 14 (.done)))))))))))))))), (8, .take 0 (.take 1 (.take 2 (.take 3 (.take 4 (.take 5 (.take 6 (.take 7 (.take 8 (.take 9 (.take 10 (.take 11 (.take 12 (.take 13 (.take 14 (.take 15 (.done))))))))))))))))), (10, .take 0 (.take 1 (.take 2 (.take 3 (.take 4 (.take 5 (.take 6 (.take 7 (.take 8 (.take 9 (.take 10 (.take 11 (.take 12 (.take 13 (.take 14 (.take 15 (.done))))))))))))))))), (13, .take 0 (.take 1 (.take 2 (.take 3 (.take 4 (.take 5 (.take 6 (.take 7 (.take 8 (.take 9 (.take 10 (.take 11 (.take 12 (.take 13 (.done))))))))))))))), (15, .take 0 (.take 1 (.take 2 (.take 3 (.take 4 (.take 5 (.take 6 (.take 7 (.take 8 (.take 9 (.take 10 (.take 11 (.take 12 (.take 13 (.take 14 (.done)))))))))))))))), (18, .take 0 (.take 1 (.take 2 (.take 3 (.take 4 (.take 5 (.take 6 (.take 7 (.take 8 (.take 9 (.take 10 (.take 11 (.take 12 (.take 13 (.take 14 (.take 15 (.done))))))))))))))))), (21, .take 0 (.take 1 (.take 2 (.take 3 (.take 4 (.take 5 (.take 6 (.take 7 (.take 8 (.take 9 (.take 10 (.take 11 (.take 12 (.take 13 (.take 14 (.take 15 (.done)))))))))))))))))]
def sch237 : List (Nat × Sched) := [(17, .take 0 (.take 1 (.take 2 (.take 3 (.take 4 (.take 5 (.take 6 (.take 7 (.take 8 (.take 9 (.take 10 (.take 11 (.take 12 (.take 13 (.take 14 (.done))))))))))))))))]
def sch283 : List (Nat × Sched) := [(3, .take 0 (.take 1 (.take 2 (.take 3 (.take 4 (.take 5 (.take 6 (.take 7 (.take 8 (.take 9 (.take 10 (.take 11 (.take 12 (.take 13 (.take 14 (.take 15 (.done)))))))))))))))))]
def sch314 : List (Nat × Sched) := [(3, .take 0 (.take 1 (.take 2 (.take 3 (.take 4 (.take 5 (.take 6 (.take 7 (.take 8 (.take 9 (.take 10 (.take 11 (.take 12 (.take 13 (.take 14 (.take 15 (.take 16 (.take 17 (.take 18 (.take 19 (.done))))))))))))))))))))), (5, .take 0 (.take 1 (.take 2 (.take 3 (.take 4 (.take 5 (.take 6 (.take 7 (.take 8 (.take 9 (.take 10 (.take 11 (.take 12 (.take 13 (.done))))))))))))))), (6, .take 0 (.take 1 (.take 2 (.take 3 (.take 4 (.take 5 (.take 6 (.take 7 (.take 8 (.take 9 (.take 10 (.take 11 (.take 12 (.take 13 (.take 14 (.take 15 (.take 16 (.take 17 (.take 18 (.take 19 (.take 20 (.take 21 (.take 22 (.take 23 (.done)))))))))))))))))))))))))]
end Go.Proofs.YtgfkepebfaiepaaGreatDoor.Ax
