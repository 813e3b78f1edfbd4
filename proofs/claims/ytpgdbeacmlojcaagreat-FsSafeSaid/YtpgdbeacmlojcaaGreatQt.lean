/-
  Chapter 07: tables of types, schedules, what start-up lays.
-/
import Derived.Test.YtpgdbeacmlojcaaGreatBxZ
import Derived.Test.YtpgdbeacmlojcaaGreatProg
import Derived.Shelf.GgClosure.StringsIndexFuncTop
import Derived.Shelf.Strings.FuncGrows
import Derived.Shelf.SlMaps.Clone
import Derived.Ground.GgwProg
import Derived.Ground.SlmcProg
import Derived.Ground.NamesProg
import Derived.Shelf.SlIter.Nil
import Derived.Shelf.SortM.Plain
import Derived.Shelf.SortM.SortNone
import Derived.Shelf.Small.Bits
import Derived.Ground.GgzProg
import Derived.Ground.SlgmProg
namespace Go.Proofs.YtpgdbeacmlojcaaGreat.Ax
def tt : TT := [
  (0, { k := .other, size := 1, bytes := 0, zero := some (.tuple ⟨[]⟩) }),
  (3, { k := .int .i64, size := 1, bytes := 8, zero := some (.int .i64 (0)) }),
  (4, { k := .bool, size := 1, bytes := 1, zero := some (.bool false) }),
  (5, { k := .int .u8, size := 1, bytes := 1, zero := some (.int .u8 (0)) }),
  (9, { k := .str, size := 1, bytes := 16, zero := some (.string ⟨⟨[]⟩⟩) }),
  (20, { k := .ifc, size := 1, bytes := 16, zero := some .nilIface }),
  (21, { k := .int .i32, size := 1, bytes := 4, zero := some (.int .i32 (0)) }),
  (22, { k := .sl 31, size := 1, bytes := 24, zero := some (.slice none 0 0) }),
  (23, { k := .sl 5, size := 1, bytes := 24, zero := some (.slice none 0 0) }),
  (24, { k := .sl 3, size := 1, bytes := 24, zero := some (.slice none 0 0) }),
  (25, { k := .ptr 60, size := 1, bytes := 8, zero := some (.pointer none) }),
  (26, { k := .int .i64, size := 1, bytes := 8, zero := some (.int .i64 (0)) }),
  (27, { k := .other, size := 1, bytes := 0, zero := some (.tuple ⟨[.pointer none, .int .i64 (0)]⟩) }),
  (31, { k := .st [(0, 3), (1, 9), (2, 9), (3, 3), (4, 3), (5, 23), (6, 24)], size := 7, bytes := 104, zero := some (.agg ⟨[.int .i64 (0), .string ⟨⟨[]⟩⟩, .string ⟨⟨[]⟩⟩, .int .i64 (0), .int .i64 (0), .slice none 0 0, .slice none 0 0]⟩), eq := true }),
  (35, { k := .other, size := 1, bytes := 8, zero := some .nilFunc }),
  (39, { k := .other, size := 1, bytes := 0, zero := some (.tuple ⟨[.int .i64 (0), .int .i64 (0)]⟩) }),
  (41, { k := .other, size := 1, bytes := 0, zero := some (.tuple ⟨[.slice none 0 0, .int .i64 (0)]⟩) }),
  (45, { k := .mp 9 3, size := 1, bytes := 8, zero := some (.map none) }),
  (46, { k := .sl 9, size := 1, bytes := 24, zero := some (.slice none 0 0) }),
  (55, { k := .other, size := 1, bytes := 8, zero := some .nilFunc }),
  (56, { k := .ptr 89, size := 1, bytes := 8, zero := some (.pointer none) }),
  (58, { k := .mp 64 67, size := 1, bytes := 8, zero := some (.map none) }),
  (60, { k := .st [(0, 56), (1, 58), (2, 3), (3, 4), (4, 3), (5, 3)], size := 6, bytes := 48, zero := some (.agg ⟨[.pointer none, .map none, .int .i64 (0), .bool false, .int .i64 (0), .int .i64 (0)]⟩), eq := true }),
  (64, { k := .int .u64, size := 1, bytes := 8, zero := some (.int .u64 (0)) }),
  (65, { k := .other, size := 1, bytes := 0, zero := some (.tuple ⟨[.int .u64 (0), .int .i64 (0)]⟩) }),
  (67, { k := .ptr 96, size := 1, bytes := 8, zero := some (.pointer none) }),
  (71, { k := .other, size := 1, bytes := 8, zero := some .nilFunc }),
  (73, { k := .other, size := 1, bytes := 8, zero := some .nilFunc }),
  (74, { k := .sl 64, size := 1, bytes := 24, zero := some (.slice none 0 0) }),
  (77, { k := .other, size := 1, bytes := 0, zero := some (.tuple ⟨[.pointer none, .int .i64 (0)]⟩) }),
  (80, { k := .sl 83, size := 1, bytes := 24, zero := some (.slice none 0 0) }),
  (83, { k := .st [(0, 9), (1, 64)], size := 2, bytes := 24, zero := some (.agg ⟨[.string ⟨⟨[]⟩⟩, .int .u64 (0)]⟩), eq := true }),
  (86, { k := .mp 9 64, size := 1, bytes := 8, zero := some (.map none) }),
  (87, { k := .sl 102, size := 1, bytes := 24, zero := some (.slice none 0 0) }),
  (89, { k := .st [(0, 86), (1, 86), (2, 87), (3, 64)], size := 4, bytes := 48, zero := some (.agg ⟨[.map none, .map none, .slice none 0 0, .int .u64 (0)]⟩), eq := true }),
  (90, { k := .other, size := 1, bytes := 0, zero := some (.tuple ⟨[.int .u64 (0), .bool false]⟩) }),
  (91, { k := .other, size := 1, bytes := 8, zero := some .nilFunc }),
  (93, { k := .other, size := 1, bytes := 8, zero := some .nilFunc }),
  (94, { k := .sl 112, size := 1, bytes := 24, zero := some (.slice none 0 0) }),
  (96, { k := .st [(0, 23), (1, 23), (2, 94)], size := 3, bytes := 72, zero := some (.agg ⟨[.slice none 0 0, .slice none 0 0, .slice none 0 0]⟩), eq := true }),
  (98, { k := .sl 5, size := 1, bytes := 24, zero := some (.slice none 0 0) }),
  (102, { k := .other, size := 1, bytes := 8, zero := some .nilFunc }),
  (105, { k := .other, size := 1, bytes := 8, zero := some .nilFunc }),
  (106, { k := .other, size := 1, bytes := 8, zero := some .nilFunc }),
  (112, { k := .ifc, size := 1, bytes := 16, zero := some .nilIface }),
  (113, { k := .other, size := 1, bytes := 8, zero := some .nilFunc }),
  (115, { k := .other, size := 1, bytes := 8, zero := some .nilFunc }),
  (116, { k := .other, size := 1, bytes := 8, zero := some .nilFunc }),
  (120, { k := .int .i64, size := 1, bytes := 8, zero := some (.int .i64 (0)) }),
  (121, { k := .other, size := 1, bytes := 8, zero := some .nilFunc }),
  (126, { k := .other, size := 1, bytes := 8, zero := some .nilFunc }),
  (129, { k := .int .u64, size := 1, bytes := 8, zero := some (.int .u64 (0)) }),
  (133, { k := .int .i64, size := 1, bytes := 8, zero := some (.int .i64 (0)) }),
  (134, { k := .other, size := 1, bytes := 0, zero := some (.tuple ⟨[.int .i64 (0), .int .i64 (0)]⟩) }),
  (139, { k := .other, size := 1, bytes := 0, zero := some (.tuple ⟨[.int .i64 (0), .bool false]⟩) }),
  (142, { k := .int .u32, size := 1, bytes := 4, zero := some (.int .u32 (0)) }),
  (146, { k := .int .u64, size := 1, bytes := 8, zero := some (.int .u64 (0)) }),
  (150, { k := .ptr 3, size := 1, bytes := 8, zero := some (.pointer none) }),
  (158, { k := .ptr 146, size := 1, bytes := 8, zero := some (.pointer none) }),
  (159, { k := .other, size := 1, bytes := 0, zero := some (.tuple ⟨[.int .i64 (0), .int .i64 (0)]⟩) })]
theorem ttOk : TOk Go.Proofs.Tryz.prog tt := TOk.of_eq (by kernel_rfl)
theorem ttBytes : TBytes tt := TBytes.of_all (by decide)
end Go.Proofs.YtpgdbeacmlojcaaGreat.Ax

namespace Go.Proofs
open Go.Shelf
def Tryz.idxfn_ren : Go.Shelf.Ren := ⟨fun | 15 => 89 | 20 => 99 | n => n, fun | 9 => 9 | 23 => 121 | 3 => 3 | 4 => 4 | 0 => 0 | 21 => 21 | n => n, fun | n => n⟩
theorem Tryz.idxfn : Go.Proofs.LaysGw.n15 Tryz.prog Tryz.idxfn_ren := {
  mixed := by kernel_rfl
  f15 := Tryz.func89.trans (congrArg some (by kernel_rfl))
  f20 := Tryz.func99.trans (congrArg some (by kernel_rfl))
  t0 := Tryz.underlying0
  a0 := Tryz.isAgg0
  z0 := Tryz.sizeOf0
  v0 := Tryz.zeroValue0
  i0 := by kernel_rfl
  t3 := Tryz.underlying3
  a3 := Tryz.isAgg3
  z3 := Tryz.sizeOf3
  v3 := Tryz.zeroValue3
  i3 := by kernel_rfl
  t4 := Tryz.underlying4
  a4 := Tryz.isAgg4
  z4 := Tryz.sizeOf4
  v4 := Tryz.zeroValue4
  i4 := by kernel_rfl
  t9 := Tryz.underlying9
  a9 := Tryz.isAgg9
  z9 := Tryz.sizeOf9
  v9 := Tryz.zeroValue9
  i9 := by kernel_rfl
  t21 := Tryz.underlying21
  a21 := Tryz.isAgg21
  z21 := Tryz.sizeOf21
  v21 := Tryz.zeroValue21
  i21 := by kernel_rfl
  t23 := Tryz.underlying121
  a23 := Tryz.isAgg121
  z23 := Tryz.sizeOf121
  v23 := Tryz.zeroValue121
  i23 := by kernel_rfl }
def Tryz.mclone_ren : Go.Shelf.Ren := ⟨fun | 5 => 74 | 7 => 91 | n => n, fun | 23 => 86 | 25 => 9 | 3 => 64 | 4 => 4 | 20 => 20 | n => n, fun | n => n⟩
theorem Tryz.mclone : Go.Proofs.SlLaysW.n5 Tryz.prog Tryz.mclone_ren := {
  mixed := by kernel_rfl
  f5 := ⟨Tryz.f74.name, by decide, Tryz.func74.trans (congrArg some (by kernel_rfl))⟩
  f7 := Tryz.func91.trans (congrArg some (by kernel_rfl))
  t4 := Tryz.underlying4
  a4 := Tryz.isAgg4
  z4 := Tryz.sizeOf4
  v4 := Tryz.zeroValue4
  t20 := Tryz.underlying20
  a20 := Tryz.isAgg20
  z20 := Tryz.sizeOf20
  v20 := Tryz.zeroValue20
  t23 := Tryz.underlying86
  a23 := Tryz.isAgg86
  z23 := Tryz.sizeOf86
  v23 := Tryz.zeroValue86 }
end Go.Proofs

namespace Go.Proofs
open Go.Shelf
def Tryz.keysN_ren : Go.Shelf.Ren := ⟨fun | 7 => 83 | 10 => 98 | n => n, fun | 23 => 86 | 26 => 9 | 3 => 64 | 28 => 116 | 0 => 0 | 27 => 115 | 33 => 91 | 4 => 4 | n => n, fun | n => n⟩
theorem Tryz.keysN : Go.Proofs.SlLaysZ.n7 Tryz.prog Tryz.keysN_ren := {
  mixed := by kernel_rfl
  f7 := ⟨Tryz.f83.name, by decide, Tryz.func83.trans (congrArg some (by kernel_rfl))⟩
  f10 := ⟨Tryz.f98.name, by decide, Tryz.func98.trans (congrArg some (by kernel_rfl))⟩
  t0 := Tryz.underlying0
  a0 := Tryz.isAgg0
  z0 := Tryz.sizeOf0
  v0 := Tryz.zeroValue0
  t4 := Tryz.underlying4
  a4 := Tryz.isAgg4
  z4 := Tryz.sizeOf4
  v4 := Tryz.zeroValue4
  t23 := Tryz.underlying86
  a23 := Tryz.isAgg86
  z23 := Tryz.sizeOf86
  v23 := Tryz.zeroValue86
  t26 := Tryz.underlying9
  a26 := Tryz.isAgg9
  z26 := Tryz.sizeOf9
  v26 := Tryz.zeroValue9
  t27 := Tryz.underlying115
  a27 := Tryz.isAgg115
  z27 := Tryz.sizeOf115
  v27 := Tryz.zeroValue115
  t28 := Tryz.underlying116
  a28 := Tryz.isAgg116
  z28 := Tryz.sizeOf116
  v28 := Tryz.zeroValue116
  t33 := Tryz.underlying91
  a33 := Tryz.isAgg91
  z33 := Tryz.sizeOf91
  v33 := Tryz.zeroValue91 }
def Tryz.sortedN_ren : Go.Shelf.Ren := ⟨fun | 6 => 82 | 8 => 96 | 9 => 97 | 11 => 111 | 13 => 95 | 12 => 112 | 23 => 109 | 24 => 110 | 14 => 119 | 15 => 120 | 16 => 121 | 17 => 122 | 18 => 123 | 19 => 124 | 20 => 125 | 21 => 126 | 22 => 127 | 25 => 129 | 26 => 114 | 27 => 115 | 28 => 130 | 29 => 131 | 30 => 132 | 31 => 133 | n => n, fun | 26 => 9 | 28 => 116 | 24 => 46 | 0 => 0 | 3 => 3 | 37 => 129 | 48 => 142 | 50 => 64 | 4 => 4 | 40 => 134 | 39 => 133 | 45 => 139 | 5 => 5 | 9 => 9 | 51 => 146 | 55 => 150 | 57 => 158 | 58 => 159 | 33 => 91 | n => n, fun | n => n⟩
theorem Tryz.sortedN : Go.Proofs.SlLaysZ.n6 Tryz.prog Tryz.sortedN_ren := {
  mixed := by kernel_rfl
  f6 := ⟨Tryz.f82.name, by decide, Tryz.func82.trans (congrArg some (by kernel_rfl))⟩
  f8 := ⟨Tryz.f96.name, by decide, Tryz.func96.trans (congrArg some (by kernel_rfl))⟩
  f11 := ⟨Tryz.f111.name, by decide, Tryz.func111.trans (congrArg some (by kernel_rfl))⟩
  t0 := Tryz.underlying0
  a0 := Tryz.isAgg0
  z0 := Tryz.sizeOf0
  v0 := Tryz.zeroValue0
  t24 := Tryz.underlying46
  a24 := Tryz.isAgg46
  z24 := Tryz.sizeOf46
  v24 := Tryz.zeroValue46
  t26 := Tryz.underlying9
  a26 := Tryz.isAgg9
  z26 := Tryz.sizeOf9
  v26 := Tryz.zeroValue9
  t28 := Tryz.underlying116
  a28 := Tryz.isAgg116
  z28 := Tryz.sizeOf116
  v28 := Tryz.zeroValue116
  i26 := by kernel_rfl }
def Tryz.sortN_ren : Go.Shelf.Ren := ⟨fun | 6 => 97 | 8 => 95 | 9 => 112 | 19 => 109 | 20 => 110 | 21 => 119 | 22 => 120 | 23 => 121 | 24 => 122 | 25 => 123 | 26 => 124 | 27 => 125 | 28 => 126 | 29 => 127 | 36 => 129 | 31 => 114 | 32 => 115 | 37 => 130 | 38 => 131 | 39 => 132 | 41 => 133 | n => n, fun | 27 => 46 | 29 => 9 | 3 => 3 | 32 => 129 | 26 => 46 | 0 => 0 | 44 => 142 | 46 => 64 | 4 => 4 | 36 => 134 | 35 => 133 | 41 => 139 | 5 => 5 | 9 => 9 | 53 => 146 | 57 => 150 | 63 => 158 | 64 => 159 | n => n, fun | n => n⟩
theorem Tryz.sortN : Go.Proofs.SlLaysM.n6 Tryz.prog Tryz.sortN_ren := {
  mixed := by kernel_rfl
  f6 := ⟨Tryz.f97.name, by decide, Tryz.func97.trans (congrArg some (by kernel_rfl))⟩
  f8 := Tryz.func95.trans (congrArg some (by kernel_rfl))
  f9 := ⟨Tryz.f112.name, by decide, Tryz.func112.trans (congrArg some (by kernel_rfl))⟩
  f19 := Tryz.func109.trans (congrArg some (by kernel_rfl))
  f20 := Tryz.func110.trans (congrArg some (by kernel_rfl))
  f21 := ⟨Tryz.f119.name, by decide, Tryz.func119.trans (congrArg some (by kernel_rfl))⟩
  f22 := ⟨Tryz.f120.name, by decide, Tryz.func120.trans (congrArg some (by kernel_rfl))⟩
  f23 := ⟨Tryz.f121.name, by decide, Tryz.func121.trans (congrArg some (by kernel_rfl))⟩
  f24 := ⟨Tryz.f122.name, by decide, Tryz.func122.trans (congrArg some (by kernel_rfl))⟩
  f25 := ⟨Tryz.f123.name, by decide, Tryz.func123.trans (congrArg some (by kernel_rfl))⟩
  f26 := ⟨Tryz.f124.name, by decide, Tryz.func124.trans (congrArg some (by kernel_rfl))⟩
  f27 := ⟨Tryz.f125.name, by decide, Tryz.func125.trans (congrArg some (by kernel_rfl))⟩
  f28 := ⟨Tryz.f126.name, by decide, Tryz.func126.trans (congrArg some (by kernel_rfl))⟩
  f29 := ⟨Tryz.f127.name, by decide, Tryz.func127.trans (congrArg some (by kernel_rfl))⟩
  f31 := Tryz.func114.trans (congrArg some (by kernel_rfl))
  f32 := Tryz.func115.trans (congrArg some (by kernel_rfl))
  f36 := ⟨Tryz.f129.name, by decide, Tryz.func129.trans (congrArg some (by kernel_rfl))⟩
  f37 := ⟨Tryz.f130.name, by decide, Tryz.func130.trans (congrArg some (by kernel_rfl))⟩
  f38 := ⟨Tryz.f131.name, by decide, Tryz.func131.trans (congrArg some (by kernel_rfl))⟩
  f39 := ⟨Tryz.f132.name, by decide, Tryz.func132.trans (congrArg some (by kernel_rfl))⟩
  f41 := ⟨Tryz.f133.name, by decide, Tryz.func133.trans (congrArg some (by kernel_rfl))⟩
  t0 := Tryz.underlying0
  a0 := Tryz.isAgg0
  z0 := Tryz.sizeOf0
  v0 := Tryz.zeroValue0
  t3 := Tryz.underlying3
  a3 := Tryz.isAgg3
  z3 := Tryz.sizeOf3
  v3 := Tryz.zeroValue3
  t4 := Tryz.underlying4
  a4 := Tryz.isAgg4
  z4 := Tryz.sizeOf4
  v4 := Tryz.zeroValue4
  t5 := Tryz.underlying5
  a5 := Tryz.isAgg5
  z5 := Tryz.sizeOf5
  v5 := Tryz.zeroValue5
  t9 := Tryz.underlying9
  a9 := Tryz.isAgg9
  z9 := Tryz.sizeOf9
  v9 := Tryz.zeroValue9
  t26 := Tryz.underlying46
  a26 := Tryz.isAgg46
  z26 := Tryz.sizeOf46
  v26 := Tryz.zeroValue46
  t27 := Tryz.underlying46
  a27 := Tryz.isAgg46
  z27 := Tryz.sizeOf46
  v27 := Tryz.zeroValue46
  t29 := Tryz.underlying9
  a29 := Tryz.isAgg9
  z29 := Tryz.sizeOf9
  v29 := Tryz.zeroValue9
  t32 := Tryz.underlying129
  a32 := Tryz.isAgg129
  z32 := Tryz.sizeOf129
  v32 := Tryz.zeroValue129
  t35 := Tryz.underlying133
  a35 := Tryz.isAgg133
  z35 := Tryz.sizeOf133
  v35 := Tryz.zeroValue133
  t36 := Tryz.underlying134
  a36 := Tryz.isAgg134
  z36 := Tryz.sizeOf134
  v36 := Tryz.zeroValue134
  t41 := Tryz.underlying139
  a41 := Tryz.isAgg139
  z41 := Tryz.sizeOf139
  v41 := Tryz.zeroValue139
  t44 := Tryz.underlying142
  a44 := Tryz.isAgg142
  z44 := Tryz.sizeOf142
  v44 := Tryz.zeroValue142
  t46 := Tryz.underlying64
  a46 := Tryz.isAgg64
  z46 := Tryz.sizeOf64
  v46 := Tryz.zeroValue64
  t53 := Tryz.underlying146
  a53 := Tryz.isAgg146
  z53 := Tryz.sizeOf146
  v53 := Tryz.zeroValue146
  t57 := Tryz.underlying150
  a57 := Tryz.isAgg150
  z57 := Tryz.sizeOf150
  v57 := Tryz.zeroValue150
  t63 := Tryz.underlying158
  a63 := Tryz.isAgg158
  z63 := Tryz.sizeOf158
  v63 := Tryz.zeroValue158
  t64 := Tryz.underlying159
  a64 := Tryz.isAgg159
  z64 := Tryz.sizeOf159
  v64 := Tryz.zeroValue159 }
def Tryz.bitsLen_ren : Go.Shelf.Ren := ⟨fun | 125 => 95 | 128 => 109 | 129 => 110 | n => n, fun | 46 => 129 | 3 => 3 | 51 => 142 | 53 => 64 | 4 => 4 | 5 => 5 | 9 => 9 | n => n, fun | n => n⟩
theorem Tryz.bitsLen : Go.Proofs.Lays.n125 Tryz.prog Tryz.bitsLen_ren := {
  mixed := by kernel_rfl
  f125 := Tryz.func95.trans (congrArg some (by kernel_rfl))
  f128 := Tryz.func109.trans (congrArg some (by kernel_rfl))
  f129 := Tryz.func110.trans (congrArg some (by kernel_rfl))
  t3 := Tryz.underlying3
  a3 := Tryz.isAgg3
  z3 := Tryz.sizeOf3
  v3 := Tryz.zeroValue3
  t4 := Tryz.underlying4
  a4 := Tryz.isAgg4
  z4 := Tryz.sizeOf4
  v4 := Tryz.zeroValue4
  t5 := Tryz.underlying5
  a5 := Tryz.isAgg5
  z5 := Tryz.sizeOf5
  v5 := Tryz.zeroValue5
  t9 := Tryz.underlying9
  a9 := Tryz.isAgg9
  z9 := Tryz.sizeOf9
  v9 := Tryz.zeroValue9
  t46 := Tryz.underlying129
  a46 := Tryz.isAgg129
  z46 := Tryz.sizeOf129
  v46 := Tryz.zeroValue129
  t51 := Tryz.underlying142
  a51 := Tryz.isAgg142
  z51 := Tryz.sizeOf142
  v51 := Tryz.zeroValue142
  t53 := Tryz.underlying64
  a53 := Tryz.isAgg64
  z53 := Tryz.sizeOf64
  v53 := Tryz.zeroValue64 }
end Go.Proofs

namespace Go.Proofs.YtpgdbeacmlojcaaGreat.Ax
/-- hourbook/hourbooklaw07.does -/
def sch8 : List (Nat × Sched) := [(6, .take 0 (.take 1 (.take 2 (.take 3 (.take 5 (.two 4 (.take 6 (.take 7 (.take 8 (.take 9 (.take 10 (.take 11 (.done))))))) (.take 6 (.take 7 (.take 8 (.take 4 (.take 9 (.take 10 (.take 11 (.done))))))))))))))]
/-- (*hourbook/fs.FS).Crash -/
def sch14 : List (Nat × Sched) := [(6, .take 0 (.take 1 (.take 2 (.take 4 (.take 5 (.take 6 (.take 7 (.two 3 (.take 8 (.take 9 (.take 10 (.take 11 (.done))))) (.take 8 (.two 3 (.take 9 (.take 10 (.take 11 (.done)))) (.take 9 (.two 3 (.take 10 (.take 11 (.done))) (.take 10 (.take 3 (.take 11 (.done))))))))))))))))]
/-- (*hourbook/fs.FS).Copy -/
def sch22 : List (Nat × Sched) := [(8, .take 0 (.take 2 (.take 3 (.two 1 (.take 4 (.take 5 (.done))) (.take 4 (.take 1 (.take 5 (.done))))))))]
/-- slices.Equal[[]string,string] -/
def sch23 : List (Nat × Sched) := [(6, .take 0 (.take 1 (.take 2 (.take 3 (.take 4 (.take 5 (.take 6 (.take 7 (.take 8 (.done))))))))))]
/-- (*hourbook/fs.FS).Create$1 -/
def sch32 : List (Nat × Sched) := [(1, .take 4 (.take 0 (.take 1 (.take 2 (.take 3 (.take 5 (.take 6 (.take 7 (.take 8 (.take 9 (.take 10 (.done)))))))))))), (3, .take 4 (.two 0 (.take 1 (.take 2 (.two 3 (.take 5 (.take 6 (.done))) (.take 5 (.take 3 (.take 6 (.done))))))) (.take 5 (.take 0 (.take 1 (.take 2 (.take 3 (.take 6 (.done)))))))))]
/-- (*hourbook/folder.Folder).Create -/
def sch33 : List (Nat × Sched) := [(3, .take 0 (.take 1 (.take 2 (.take 3 (.take 4 (.take 5 (.take 6 (.take 7 (.take 8 (.take 9 (.take 10 (.done))))))))))))]
/-- (*hourbook/fs.FS).Append$1 -/
def sch36 : List (Nat × Sched) := [(1, .two 0 (.two 1 (.take 2 (.take 3 (.take 4 (.take 5 (.take 6 (.take 7 (.take 14 (.two 8 (.take 9 (.two 10 (.take 11 (.take 12 (.two 13 (.take 15 (.take 16 (.take 17 (.take 18 (.done))))) (.take 15 (.take 13 (.take 16 (.take 17 (.take 18 (.done))))))))) (.take 15 (.take 10 (.take 11 (.take 12 (.take 13 (.take 16 (.take 17 (.take 18 (.done))))))))))) (.two 10 (.take 11 (.take 12 (.two 8 (.take 9 (.two 13 (.take 15 (.take 16 (.take 17 (.take 18 (.done))))) (.take 15 (.take 13 (.take 16 (.take 17 (.take 18 (.done)))))))) (.two 13 (.two 8 (.take 9 (.take 15 (.take 16 (.take 17 (.take 18 (.done)))))) (.take 15 (.take 8 (.take 9 (.take 16 (.take 17 (.take 18 (.done)))))))) (.take 15 (.take 8 (.take 9 (.take 13 (.take 16 (.take 17 (.take 18 (.done)))))))))))) (.take 15 (.take 8 (.take 9 (.take 10 (.take 11 (.take 12 (.take 13 (.take 16 (.take 17 (.take 18 (.done)))))))))))))))))))) (.take 2 (.take 3 (.take 4 (.two 1 (.take 5 (.take 6 (.take 7 (.take 14 (.two 8 (.take 9 (.two 10 (.take 11 (.take 12 (.two 13 (.take 15 (.take 16 (.take 17 (.take 18 (.done))))) (.take 15 (.take 13 (.take 16 (.take 17 (.take 18 (.done))))))))) (.take 15 (.take 10 (.take 11 (.take 12 (.take 13 (.take 16 (.take 17 (.take 18 (.done))))))))))) (.two 10 (.take 11 (.take 12 (.two 8 (.take 9 (.two 13 (.take 15 (.take 16 (.take 17 (.take 18 (.done))))) (.take 15 (.take 13 (.take 16 (.take 17 (.take 18 (.done)))))))) (.two 13 (.two 8 (.take 9 (.take 15 (.take 16 (.take 17 (.take 18 (.done)))))) (.take 15 (.take 8 (.take 9 (.take 16 (.take 17 (.take 18 (.done)))))))) (.take 15 (.take 8 (.take 9 (.take 13 (.take 16 (.take 17 (.take 18 (.done)))))))))))) (.take 15 (.take 8 (.take 9 (.take 10 (.take 11 (.take 12 (.take 13 (.take 16 (.take 17 (.take 18 (.done))))))))))))))))) (.take 5 (.take 1 (.take 6 (.take 7 (.take 14 (.two 8 (.take 9 (.two 10 (.take 11 (.take 12 (.two 13 (.take 15 (.take 16 (.take 17 (.take 18 (.done))))) (.take 15 (.take 13 (.take 16 (.take 17 (.take 18 (.done))))))))) (.take 15 (.take 10 (.take 11 (.take 12 (.take 13 (.take 16 (.take 17 (.take 18 (.done))))))))))) (.two 10 (.take 11 (.take 12 (.two 8 (.take 9 (.two 13 (.take 15 (.take 16 (.take 17 (.take 18 (.done))))) (.take 15 (.take 13 (.take 16 (.take 17 (.take 18 (.done)))))))) (.two 13 (.two 8 (.take 9 (.take 15 (.take 16 (.take 17 (.take 18 (.done)))))) (.take 15 (.take 8 (.take 9 (.take 16 (.take 17 (.take 18 (.done)))))))) (.take 15 (.take 8 (.take 9 (.take 13 (.take 16 (.take 17 (.take 18 (.done)))))))))))) (.take 15 (.take 8 (.take 9 (.take 10 (.take 11 (.take 12 (.take 13 (.take 16 (.take 17 (.take 18 (.done))))))))))))))))))))))) (.take 2 (.take 3 (.take 4 (.two 0 (.two 1 (.take 5 (.take 6 (.take 7 (.take 14 (.two 8 (.take 9 (.two 10 (.take 11 (.take 12 (.two 13 (.take 15 (.take 16 (.take 17 (.take 18 (.done))))) (.take 15 (.take 13 (.take 16 (.take 17 (.take 18 (.done))))))))) (.take 15 (.take 10 (.take 11 (.take 12 (.take 13 (.take 16 (.take 17 (.take 18 (.done))))))))))) (.two 10 (.take 11 (.take 12 (.two 8 (.take 9 (.two 13 (.take 15 (.take 16 (.take 17 (.take 18 (.done))))) (.take 15 (.take 13 (.take 16 (.take 17 (.take 18 (.done)))))))) (.two 13 (.two 8 (.take 9 (.take 15 (.take 16 (.take 17 (.take 18 (.done)))))) (.take 15 (.take 8 (.take 9 (.take 16 (.take 17 (.take 18 (.done)))))))) (.take 15 (.take 8 (.take 9 (.take 13 (.take 16 (.take 17 (.take 18 (.done)))))))))))) (.take 15 (.take 8 (.take 9 (.take 10 (.take 11 (.take 12 (.take 13 (.take 16 (.take 17 (.take 18 (.done))))))))))))))))) (.take 5 (.take 1 (.take 6 (.take 7 (.take 14 (.two 8 (.take 9 (.two 10 (.take 11 (.take 12 (.two 13 (.take 15 (.take 16 (.take 17 (.take 18 (.done))))) (.take 15 (.take 13 (.take 16 (.take 17 (.take 18 (.done))))))))) (.take 15 (.take 10 (.take 11 (.take 12 (.take 13 (.take 16 (.take 17 (.take 18 (.done))))))))))) (.two 10 (.take 11 (.take 12 (.two 8 (.take 9 (.two 13 (.take 15 (.take 16 (.take 17 (.take 18 (.done))))) (.take 15 (.take 13 (.take 16 (.take 17 (.take 18 (.done)))))))) (.two 13 (.two 8 (.take 9 (.take 15 (.take 16 (.take 17 (.take 18 (.done)))))) (.take 15 (.take 8 (.take 9 (.take 16 (.take 17 (.take 18 (.done)))))))) (.take 15 (.take 8 (.take 9 (.take 13 (.take 16 (.take 17 (.take 18 (.done)))))))))))) (.take 15 (.take 8 (.take 9 (.take 10 (.take 11 (.take 12 (.take 13 (.take 16 (.take 17 (.take 18 (.done))))))))))))))))))) (.take 5 (.take 0 (.take 1 (.take 6 (.take 7 (.take 14 (.two 8 (.take 9 (.two 10 (.take 11 (.take 12 (.two 13 (.take 15 (.take 16 (.take 17 (.take 18 (.done))))) (.take 15 (.take 13 (.take 16 (.take 17 (.take 18 (.done))))))))) (.take 15 (.take 10 (.take 11 (.take 12 (.take 13 (.take 16 (.take 17 (.take 18 (.done))))))))))) (.two 10 (.take 11 (.take 12 (.two 8 (.take 9 (.two 13 (.take 15 (.take 16 (.take 17 (.take 18 (.done))))) (.take 15 (.take 13 (.take 16 (.take 17 (.take 18 (.done)))))))) (.two 13 (.two 8 (.take 9 (.take 15 (.take 16 (.take 17 (.take 18 (.done)))))) (.take 15 (.take 8 (.take 9 (.take 16 (.take 17 (.take 18 (.done)))))))) (.take 15 (.take 8 (.take 9 (.take 13 (.take 16 (.take 17 (.take 18 (.done)))))))))))) (.take 15 (.take 8 (.take 9 (.take 10 (.take 11 (.take 12 (.take 13 (.take 16 (.take 17 (.take 18 (.done))))))))))))))))))))))))]
/-- (*hourbook/fs.FS).Used -/
def sch37 : List (Nat × Sched) := [(7, .take 0 (.take 1 (.take 2 (.take 3 (.take 5 (.two 4 (.take 6 (.take 7 (.take 8 (.take 9 (.take 10 (.done)))))) (.take 6 (.take 4 (.take 7 (.take 8 (.take 9 (.take 10 (.done)))))))))))))]
/-- (*hourbook/folder.Folder).Copy -/
def sch58 : List (Nat × Sched) := [(3, .take 0 (.take 1 (.take 2 (.take 3 (.take 5 (.take 6 (.take 7 (.take 8 (.take 10 (.take 11 (.take 12 (.take 13 (.take 15 (.take 16 (.take 17 (.take 18 (.take 4 (.take 9 (.take 14 (.take 19 (.take 20 (.take 21 (.done)))))))))))))))))))))))]
/-- (*hourbook/file.File).Copy -/
def sch59 : List (Nat × Sched) := [(3, .take 0 (.take 1 (.take 2 (.take 3 (.take 5 (.take 6 (.take 7 (.take 8 (.take 10 (.take 11 (.take 12 (.take 13 (.take 4 (.take 9 (.take 14 (.take 15 (.take 16 (.take 17 (.done)))))))))))))))))))]
/-- (*hourbook/fs.FS).Rename$1 -/
def sch62 : List (Nat × Sched) := [(1, .take 4 (.take 5 (.take 0 (.take 1 (.take 2 (.take 3 (.take 6 (.take 7 (.done)))))))))]
/-- (*hourbook/folder.Folder).Rename -/
def sch63 : List (Nat × Sched) := [(3, .take 0 (.take 1 (.take 2 (.take 3 (.take 4 (.take 5 (.take 6 (.take 7 (.take 8 (.take 9 (.take 10 (.take 11 (.done)))))))))))))]
/-- (*hourbook/fs.FS).Remove$1 -/
def sch64 : List (Nat × Sched) := [(1, .take 4 (.take 0 (.take 1 (.take 2 (.take 3 (.take 5 (.take 6 (.done))))))))]
/-- (*hourbook/folder.Folder).Remove -/
def sch65 : List (Nat × Sched) := [(3, .take 0 (.take 1 (.take 2 (.take 3 (.take 4 (.take 5 (.take 6 (.take 7 (.take 8 (.take 9 (.take 10 (.done))))))))))))]
/-- (*hourbook/file.File).done -/
def sch72 : List (Nat × Sched) := [(0, .take 0 (.take 1 (.take 2 (.take 3 (.take 4 (.take 7 (.two 5 (.two 6 (.two 8 (.take 9 (.take 10 (.take 11 (.take 12 (.take 13 (.take 14 (.take 15 (.done)))))))) (.take 9 (.take 10 (.take 11 (.take 8 (.take 12 (.take 13 (.take 14 (.take 15 (.done)))))))))) (.take 9 (.take 10 (.take 11 (.take 6 (.take 8 (.take 12 (.take 13 (.take 14 (.take 15 (.done))))))))))) (.take 9 (.take 10 (.take 11 (.take 5 (.take 6 (.take 8 (.take 12 (.take 13 (.take 14 (.take 15 (.done))))))))))))))))))]
/-- slices.Compact[[]uint64,uint64] -/
def sch81 : List (Nat × Sched) := [(6, .take 0 (.take 1 (.take 2 (.take 3 (.take 4 (.take 5 (.take 6 (.take 7 (.take 8 (.take 9 (.done))))))))))), (11, .take 0 (.take 1 (.take 2 (.take 3 (.take 4 (.take 5 (.take 6 (.take 7 (.take 8 (.take 9 (.done)))))))))))]
end Go.Proofs.YtpgdbeacmlojcaaGreat.Ax

namespace Go.Proofs.YtpgdbeacmlojcaaGreat.Ax
/-- slices.pdqsortOrdered[uint64] -/
def sch94 : List (Nat × Sched) := [(17, .take 0 (.take 1 (.take 2 (.take 3 (.take 4 (.take 5 (.take 6 (.take 7 (.take 8 (.take 9 (.take 10 (.take 11 (.take 12 (.take 13 (.take 14 (.done))))))))))))))))]
/-- slices.insertionSortOrdered[uint64] -/
def sch100 : List (Nat × Sched) := [(4, .take 0 (.take 1 (.take 2 (.take 3 (.take 4 (.take 5 (.take 6 (.take 7 (.take 8 (.take 9 (.take 10 (.take 11 (.take 12 (.take 13 (.take 14 (.done)))))))))))))))), (6, .take 0 (.take 1 (.take 2 (.take 3 (.take 4 (.take 5 (.take 6 (.take 7 (.take 8 (.take 9 (.take 10 (.take 11 (.take 12 (.take 13 (.take 14 (.take 15 (.take 16 (.take 17 (.done)))))))))))))))))))]
/-- slices.heapSortOrdered[uint64] -/
def sch101 : List (Nat × Sched) := [(10, .take 0 (.take 1 (.take 2 (.take 3 (.take 4 (.take 5 (.take 6 (.take 7 (.take 8 (.take 9 (.take 10 (.take 11 (.take 12 (.take 13 (.take 14 (.take 15 (.take 16 (.take 17 (.take 18 (.take 19 (.done)))))))))))))))))))))]
/-- slices.breakPatternsOrdered[uint64] -/
def sch102 : List (Nat × Sched) := [(10, .take 0 (.take 1 (.take 2 (.take 3 (.take 4 (.take 5 (.take 6 (.take 7 (.take 8 (.take 9 (.take 10 (.take 11 (.take 12 (.take 13 (.take 14 (.take 15 (.take 16 (.take 17 (.take 18 (.take 19 (.done)))))))))))))))))))))]
/-- slices.reverseRangeOrdered[uint64] -/
def sch104 : List (Nat × Sched) := [(3, .take 0 (.take 1 (.take 2 (.take 3 (.take 4 (.take 5 (.take 6 (.take 7 (.take 8 (.take 9 (.take 10 (.take 11 (.take 12 (.take 13 (.take 14 (.take 15 (.done)))))))))))))))))]
/-- slices.partialInsertionSortOrdered[uint64] -/
def sch105 : List (Nat × Sched) := [(5, .take 0 (.take 1 (.take 2 (.take 3 (.take 4 (.take 5 (.take 6 (.take 7 (.take 8 (.take 9 (.take 10 (.take 11 (.take 12 (.take 13 (.take 14 (.take 15 (.done))))))))))))))))), (11, .take 0 (.take 1 (.take 2 (.take 3 (.take 4 (.take 5 (.take 6 (.take 7 (.take 8 (.take 9 (.take 10 (.take 11 (.take 12 (.take 13 (.take 14 (.take 15 (.take 16 (.take 17 (.done))))))))))))))))))), (16, .take 0 (.take 1 (.take 2 (.take 3 (.take 4 (.take 5 (.take 6 (.take 7 (.take 8 (.take 9 (.take 10 (.done)))))))))))), (17, .take 0 (.take 1 (.take 2 (.take 3 (.take 4 (.take 5 (.take 6 (.take 7 (.take 8 (.take 9 (.take 10 (.take 11 (.take 12 (.take 13 (.take 14 (.take 15 (.take 16 (.take 17 (.done))))))))))))))))))), (22, .take 0 (.take 1 (.take 2 (.take 3 (.take 4 (.take 5 (.take 6 (.take 7 (.take 8 (.take 9 (.take 10 (.done)))))))))))), (23, .take 0 (.take 1 (.take 2 (.take 3 (.take 4 (.take 5 (.take 6 (.take 7 (.take 8 (.take 9 (.take 10 (.take 11 (.take 12 (.take 13 (.take 14 (.take 15 (.take 16 (.take 17 (.done)))))))))))))))))))]
/-- slices.partitionEqualOrdered[uint64] -/
def sch107 : List (Nat × Sched) := [(1, .take 0 (.take 1 (.take 2 (.take 3 (.take 4 (.take 5 (.take 6 (.take 7 (.take 8 (.take 9 (.take 10 (.take 11 (.take 12 (.take 13 (.take 14 (.take 15 (.done))))))))))))))))), (3, .take 0 (.take 1 (.take 2 (.take 3 (.take 4 (.take 5 (.take 6 (.take 7 (.take 8 (.take 9 (.take 10 (.take 11 (.take 12 (.take 13 (.take 14 (.done)))))))))))))))), (5, .take 0 (.take 1 (.take 2 (.take 3 (.take 4 (.take 5 (.take 6 (.take 7 (.take 8 (.take 9 (.take 10 (.take 11 (.take 12 (.take 13 (.done))))))))))))))), (8, .take 0 (.take 1 (.take 2 (.take 3 (.take 4 (.take 5 (.take 6 (.take 7 (.take 8 (.take 9 (.take 10 (.take 11 (.take 12 (.take 13 (.take 14 (.take 15 (.done)))))))))))))))))]
/-- slices.partitionOrdered[uint64] -/
def sch108 : List (Nat × Sched) := [(1, .take 0 (.take 1 (.take 2 (.take 3 (.take 4 (.take 5 (.take 6 (.take 7 (.take 8 (.take 9 (.take 10 (.take 11 (.take 12 (.take 13 (.take 14 (.take 15 (.done))))))))))))))))), (3, .take 0 (.take 1 (.take 2 (.take 3 (.take 4 (.take 5 (.take 6 (.take 7 (.take 8 (.take 9 (.take 10 (.take 11 (.take 12 (.take 13 (.done))))))))))))))), (5, .take 0 (.take 1 (.take 2 (.take 3 (.take 4 (.take 5 (.take 6 (.take 7 (.take 8 (.take 9 (.take 10 (.take 11 (.take 12 (.take 13 (.take 14 (.done)))))))))))))))), (8, .take 0 (.take 1 (.take 2 (.take 3 (.take 4 (.take 5 (.take 6 (.take 7 (.take 8 (.take 9 (.take 10 (.take 11 (.take 12 (.take 13 (.take 14 (.take 15 (.done))))))))))))))))), (10, .take 0 (.take 1 (.take 2 (.take 3 (.take 4 (.take 5 (.take 6 (.take 7 (.take 8 (.take 9 (.take 10 (.take 11 (.take 12 (.take 13 (.take 14 (.take 15 (.done))))))))))))))))), (13, .take 0 (.take 1 (.take 2 (.take 3 (.take 4 (.take 5 (.take 6 (.take 7 (.take 8 (.take 9 (.take 10 (.take 11 (.take 12 (.take 13 (.done))))))))))))))), (15, .take 0 (.take 1 (.take 2 (.take 3 (.take 4 (.take 5 (.take 6 (.take 7 (.take 8 (.take 9 (.take 10 (.take 11 (.take 12 (.take 13 (.take 14 (.done)))))))))))))))), (18, .take 0 (.take 1 (.take 2 (.take 3 (.take 4 (.take 5 (.take 6 (.take 7 (.take 8 (.take 9 (.take 10 (.take 11 (.take 12 (.take 13 (.take 14 (.take 15 (.done))))))))))))))))), (21, .take 0 (.take 1 (.take 2 (.take 3 (.take 4 (.take 5 (.take 6 (.take 7 (.take 8 (.take 9 (.take 10 (.take 11 (.take 12 (.take 13 (.take 14 (.take 15 (.done)))))))))))))))))]
/-- slices.siftDownOrdered[uint64] -/
def sch113 : List (Nat × Sched) := [(3, .take 0 (.take 1 (.take 2 (.take 3 (.take 4 (.take 5 (.take 6 (.take 7 (.take 8 (.take 9 (.take 10 (.take 11 (.take 12 (.take 13 (.take 14 (.take 15 (.take 16 (.take 17 (.take 18 (.take 19 (.done))))))))))))))))))))), (5, .take 0 (.take 1 (.take 2 (.take 3 (.take 4 (.take 5 (.take 6 (.take 7 (.take 8 (.take 9 (.take 10 (.take 11 (.take 12 (.take 13 (.done))))))))))))))), (6, .take 0 (.take 1 (.take 2 (.take 3 (.take 4 (.take 5 (.take 6 (.take 7 (.take 8 (.take 9 (.take 10 (.take 11 (.take 12 (.take 13 (.take 14 (.take 15 (.take 16 (.take 17 (.take 18 (.take 19 (.take 20 (.take 21 (.take 22 (.take 23 (.done)))))))))))))))))))))))))]
/-- (*slices.xorshift).Next -/
def sch115 : List (Nat × Sched) := [(1, .take 0 (.take 1 (.take 2 (.take 3 (.take 4 (.take 5 (.take 6 (.take 7 (.take 8 (.take 9 (.done))))))))))), (2, .take 0 (.take 1 (.take 2 (.take 3 (.take 4 (.take 5 (.take 6 (.take 7 (.take 8 (.take 9 (.done))))))))))), (3, .take 0 (.take 1 (.take 2 (.take 3 (.take 4 (.take 5 (.take 6 (.take 7 (.take 8 (.take 9 (.done)))))))))))]
/-- slices.order2Ordered[uint64] -/
def sch128 : List (Nat × Sched) := [(1, .take 0 (.take 1 (.take 2 (.take 3 (.take 4 (.take 5 (.take 6 (.take 7 (.take 8 (.done))))))))))]
end Go.Proofs.YtpgdbeacmlojcaaGreat.Ax
