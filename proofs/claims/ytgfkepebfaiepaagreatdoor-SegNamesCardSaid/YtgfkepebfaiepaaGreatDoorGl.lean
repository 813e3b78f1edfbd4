/-
  Memory that start-up lays and nobody writes; methods called through interfaces.
-/
import Derived.Test.YtgfkepebfaiepaaGreatDoorBxAa
namespace Go.Proofs.YtgfkepebfaiepaaGreatDoor.Ax
def halfI : List IV := [0, 274646895, 549293790, 820201905, 1098587580, 1361435347, 1640403810, 1905808397, 2197175160, 2460548119, 2722870694, 2987750089, 3280807620, 3553878443, 3811616794, 4084100981].map fun n => .v (.int .u32 n)
def sizesI : List IV := [1, 1, 2, 6, 3, 4].map fun n => .v (.int .i64 n)
def syntaxI : IV := .ifc 372 (.pp [.str [105, 110, 118, 97, 108, 105, 100, 32, 115, 121, 110, 116, 97, 120]])
def bruijnI : List IV := [0, 1, 56, 2, 57, 49, 28, 3, 61, 58, 42, 50, 38, 29, 17, 4, 62, 47, 59, 36, 45, 43, 51, 22, 53, 39, 33, 30, 24, 18, 12, 5, 63, 55, 48, 27, 60, 41, 37, 16, 46, 35, 44, 21, 52, 32, 23, 11, 54, 26, 40, 15, 34, 20, 31, 10, 25, 14, 19, 9, 13, 8, 7, 6].map fun n => .v (.int .u8 n)
def globs : List (Nat × List IV) := [(5, halfI), (0, sizesI), (1, [syntaxI]), (7, bruijnI)]
def meths : List (Nat × String × Nat) := [(317, "hourbook/file.units", 357), (317, "hourbook/file.does", 356),
 (269, "hourbook/file.units", 353), (269, "hourbook/file.does", 352)]
end Go.Proofs.YtgfkepebfaiepaaGreatDoor.Ax
