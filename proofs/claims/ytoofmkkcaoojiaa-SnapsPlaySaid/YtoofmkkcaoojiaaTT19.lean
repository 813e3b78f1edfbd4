/-
  The types that the functions name, as a table (printed by wip/tools/tt.py).
-/
import Derived.Test.YtoofmkkcaoojiaaBxZ
import Derived.Test.YtoofmkkcaoojiaaProg
namespace Go.Proofs.Ytoofmkkcaoojiaa.Ax
def tt : TT := [
  (0, { k := .other, size := 1, bytes := 0, zero := some (.tuple ⟨[]⟩) }),
  (3, { k := .int .i64, size := 1, bytes := 8, zero := some (.int .i64 (0)) }),
  (4, { k := .bool, size := 1, bytes := 1, zero := some (.bool false) }),
  (5, { k := .int .u8, size := 1, bytes := 1, zero := some (.int .u8 (0)) }),
  (9, { k := .str, size := 1, bytes := 16, zero := some (.string ⟨⟨[]⟩⟩) }),
  (20, { k := .ifc, size := 1, bytes := 16, zero := some .nilIface }),
  (22, { k := .sl 28, size := 1, bytes := 24, zero := some (.slice none 0 0) }),
  (23, { k := .ptr 64, size := 1, bytes := 8, zero := some (.pointer none) }),
  (25, { k := .mp 9 3, size := 1, bytes := 8, zero := some (.map none) }),
  (26, { k := .int .u64, size := 1, bytes := 8, zero := some (.int .u64 (0)) }),
  (28, { k := .st [(0, 3), (1, 9), (2, 26)], size := 3, bytes := 32, zero := some (.agg ⟨[.int .i64 (0), .string ⟨⟨[]⟩⟩, .int .u64 (0)]⟩), eq := true }),
  (29, { k := .int .i64, size := 1, bytes := 8, zero := some (.int .i64 (0)) }),
  (30, { k := .other, size := 1, bytes := 0, zero := some (.tuple ⟨[.int .u64 (0), .int .i64 (0)]⟩) }),
  (32, { k := .sl 38, size := 1, bytes := 24, zero := some (.slice none 0 0) }),
  (34, { k := .sl 26, size := 1, bytes := 24, zero := some (.slice none 0 0) }),
  (38, { k := .st [(0, 9), (1, 26)], size := 2, bytes := 24, zero := some (.agg ⟨[.string ⟨⟨[]⟩⟩, .int .u64 (0)]⟩), eq := true }),
  (40, { k := .mp 26 3, size := 1, bytes := 8, zero := some (.map none) }),
  (43, { k := .mp 9 26, size := 1, bytes := 8, zero := some (.map none) }),
  (44, { k := .mp 26 4, size := 1, bytes := 8, zero := some (.map none) }),
  (45, { k := .other, size := 1, bytes := 0, zero := some (.tuple ⟨[.int .u64 (0), .bool false]⟩) }),
  (46, { k := .other, size := 1, bytes := 0, zero := some (.tuple ⟨[.agg ⟨[.string ⟨⟨[]⟩⟩, .int .u64 (0)]⟩, .bool false]⟩) }),
  (50, { k := .ptr 53, size := 1, bytes := 8, zero := some (.pointer none) }),
  (51, { k := .sl 77, size := 1, bytes := 24, zero := some (.slice none 0 0) }),
  (53, { k := .st [(0, 51), (1, 26)], size := 2, bytes := 32, zero := some (.agg ⟨[.slice none 0 0, .int .u64 (0)]⟩), eq := true }),
  (54, { k := .other, size := 1, bytes := 0, zero := some (.tuple ⟨[.int .u64 (0), .int .i64 (0)]⟩) }),
  (57, { k := .other, size := 1, bytes := 0, zero := some (.tuple ⟨[.int .u64 (0), .int .u64 (0), .int .i64 (0)]⟩) }),
  (59, { k := .other, size := 1, bytes := 0, zero := some (.tuple ⟨[.int .u64 (0), .int .u64 (0), .int .i64 (0)]⟩) }),
  (62, { k := .mp 9 66, size := 1, bytes := 8, zero := some (.map none) }),
  (64, { k := .st [(0, 62), (1, 26)], size := 2, bytes := 16, zero := some (.agg ⟨[.map none, .int .u64 (0)]⟩), eq := true }),
  (66, { k := .st [(0, 26), (1, 26)], size := 2, bytes := 16, zero := some (.agg ⟨[.int .u64 (0), .int .u64 (0)]⟩), eq := true }),
  (67, { k := .other, size := 1, bytes := 0, zero := some (.tuple ⟨[.agg ⟨[.int .u64 (0), .int .u64 (0)]⟩, .bool false]⟩) }),
  (70, { k := .other, size := 1, bytes := 8, zero := some .nilFunc }),
  (73, { k := .other, size := 1, bytes := 0, zero := some (.tuple ⟨[.agg ⟨[.int .u64 (0), .int .u64 (0)]⟩, .int .i64 (0)]⟩) }),
  (77, { k := .st [(0, 9), (1, 26), (2, 26)], size := 3, bytes := 32, zero := some (.agg ⟨[.string ⟨⟨[]⟩⟩, .int .u64 (0), .int .u64 (0)]⟩), eq := true }),
  (81, { k := .int .u64, size := 1, bytes := 8, zero := some (.int .u64 (0)) }),
  (85, { k := .int .i64, size := 1, bytes := 8, zero := some (.int .i64 (0)) }),
  (86, { k := .other, size := 1, bytes := 0, zero := some (.tuple ⟨[.int .i64 (0), .int .i64 (0)]⟩) }),
  (90, { k := .other, size := 1, bytes := 0, zero := some (.tuple ⟨[.int .i64 (0), .bool false]⟩) }),
  (93, { k := .int .u32, size := 1, bytes := 4, zero := some (.int .u32 (0)) }),
  (101, { k := .int .u64, size := 1, bytes := 8, zero := some (.int .u64 (0)) }),
  (105, { k := .ptr 3, size := 1, bytes := 8, zero := some (.pointer none) }),
  (110, { k := .ptr 101, size := 1, bytes := 8, zero := some (.pointer none) }),
  (111, { k := .other, size := 1, bytes := 0, zero := some (.tuple ⟨[.int .i64 (0), .int .i64 (0)]⟩) })]
theorem ttOk : TOk Go.Proofs.Try.prog tt := TOk.of_eq (by kernel_rfl)
theorem ttBytes : TBytes tt := TBytes.of_all (by decide)
end Go.Proofs.Ytoofmkkcaoojiaa.Ax
