/-
  The types that the functions name, as a table (printed by wip/tools/tt.py).
-/
import Derived.Test.YteeifedpabcehaaBxZ
import Derived.Test.YteeifedpabcehaaProg
namespace Go.Proofs.Yteeifedpabcehaa.Ax
def tt : TT := [
  (0, { k := .other, size := 1, bytes := 0, zero := some (.tuple ⟨[]⟩) }),
  (3, { k := .int .i64, size := 1, bytes := 8, zero := some (.int .i64 (0)) }),
  (4, { k := .bool, size := 1, bytes := 1, zero := some (.bool false) }),
  (5, { k := .int .u8, size := 1, bytes := 1, zero := some (.int .u8 (0)) }),
  (9, { k := .str, size := 1, bytes := 16, zero := some (.string ⟨⟨[]⟩⟩) }),
  (20, { k := .ifc, size := 1, bytes := 16, zero := some .nilIface }),
  (21, { k := .int .i32, size := 1, bytes := 4, zero := some (.int .i32 (0)) }),
  (22, { k := .sl 27, size := 1, bytes := 24, zero := some (.slice none 0 0) }),
  (23, { k := .ptr 65, size := 1, bytes := 8, zero := some (.pointer none) }),
  (25, { k := .int .u64, size := 1, bytes := 8, zero := some (.int .u64 (0)) }),
  (27, { k := .st [(0, 3), (1, 9), (2, 9), (3, 3)], size := 4, bytes := 48, zero := some (.agg ⟨[.int .i64 (0), .string ⟨⟨[]⟩⟩, .string ⟨⟨[]⟩⟩, .int .i64 (0)]⟩), eq := true }),
  (28, { k := .other, size := 1, bytes := 0, zero := some (.tuple ⟨[.int .u64 (0), .bool false]⟩) }),
  (30, { k := .int .i64, size := 1, bytes := 8, zero := some (.int .i64 (0)) }),
  (31, { k := .other, size := 1, bytes := 0, zero := some (.tuple ⟨[.int .u64 (0), .int .i64 (0)]⟩) }),
  (33, { k := .mp 25 3, size := 1, bytes := 8, zero := some (.map none) }),
  (34, { k := .sl 37, size := 1, bytes := 24, zero := some (.slice none 0 0) }),
  (37, { k := .st [(0, 9), (1, 25)], size := 2, bytes := 24, zero := some (.agg ⟨[.string ⟨⟨[]⟩⟩, .int .u64 (0)]⟩), eq := true }),
  (38, { k := .other, size := 1, bytes := 8, zero := some .nilFunc }),
  (39, { k := .sl 25, size := 1, bytes := 24, zero := some (.slice none 0 0) }),
  (43, { k := .sl 34, size := 1, bytes := 24, zero := some (.slice none 0 0) }),
  (47, { k := .ptr 57, size := 1, bytes := 8, zero := some (.pointer none) }),
  (51, { k := .other, size := 1, bytes := 0, zero := some (.tuple ⟨[.int .u64 (0), .int .i64 (0)]⟩) }),
  (53, { k := .sl 58, size := 1, bytes := 24, zero := some (.slice none 0 0) }),
  (55, { k := .sl 53, size := 1, bytes := 24, zero := some (.slice none 0 0) }),
  (57, { k := .st [(0, 55), (1, 25)], size := 2, bytes := 32, zero := some (.agg ⟨[.slice none 0 0, .int .u64 (0)]⟩), eq := true }),
  (58, { k := .st [(0, 9), (1, 25)], size := 2, bytes := 24, zero := some (.agg ⟨[.string ⟨⟨[]⟩⟩, .int .u64 (0)]⟩), eq := true }),
  (62, { k := .mp 9 25, size := 1, bytes := 8, zero := some (.map none) }),
  (63, { k := .sl 80, size := 1, bytes := 24, zero := some (.slice none 0 0) }),
  (65, { k := .st [(0, 62), (1, 62), (2, 63), (3, 25)], size := 4, bytes := 48, zero := some (.agg ⟨[.map none, .map none, .slice none 0 0, .int .u64 (0)]⟩), eq := true }),
  (67, { k := .sl 9, size := 1, bytes := 24, zero := some (.slice none 0 0) }),
  (69, { k := .other, size := 1, bytes := 8, zero := some .nilFunc }),
  (70, { k := .other, size := 1, bytes := 8, zero := some .nilFunc }),
  (72, { k := .other, size := 1, bytes := 8, zero := some .nilFunc }),
  (76, { k := .other, size := 1, bytes := 8, zero := some .nilFunc }),
  (77, { k := .other, size := 1, bytes := 8, zero := some .nilFunc }),
  (79, { k := .other, size := 1, bytes := 8, zero := some .nilFunc }),
  (80, { k := .other, size := 1, bytes := 8, zero := some .nilFunc }),
  (93, { k := .other, size := 1, bytes := 8, zero := some .nilFunc }),
  (96, { k := .int .u64, size := 1, bytes := 8, zero := some (.int .u64 (0)) }),
  (102, { k := .int .i64, size := 1, bytes := 8, zero := some (.int .i64 (0)) }),
  (103, { k := .other, size := 1, bytes := 0, zero := some (.tuple ⟨[.int .i64 (0), .int .i64 (0)]⟩) }),
  (108, { k := .other, size := 1, bytes := 0, zero := some (.tuple ⟨[.int .i64 (0), .bool false]⟩) }),
  (111, { k := .int .u32, size := 1, bytes := 4, zero := some (.int .u32 (0)) }),
  (119, { k := .int .u64, size := 1, bytes := 8, zero := some (.int .u64 (0)) }),
  (123, { k := .ptr 3, size := 1, bytes := 8, zero := some (.pointer none) }),
  (127, { k := .ptr 119, size := 1, bytes := 8, zero := some (.pointer none) }),
  (128, { k := .other, size := 1, bytes := 0, zero := some (.tuple ⟨[.int .i64 (0), .int .i64 (0)]⟩) })]
theorem ttOk : TOk Go.Proofs.Try.prog tt := TOk.of_eq (by kernel_rfl)
theorem ttBytes : TBytes tt := TBytes.of_all (by decide)
end Go.Proofs.Yteeifedpabcehaa.Ax
