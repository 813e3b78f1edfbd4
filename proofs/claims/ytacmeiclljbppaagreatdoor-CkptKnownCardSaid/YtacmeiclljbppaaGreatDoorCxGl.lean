/-
  Closed runs: maps that start-up lays and nobody writes.
-/
import Derived.Test.YtacmeiclljbppaaGreatDoorCxA0
namespace Go.Proofs.YtacmeiclljbppaaGreatDoor.Cx
open Go.RowKit Go.Proofs.YtacmeiclljbppaaGreatDoor.Ax

/-- The variable, the kind of its map's keys, the entries. -/
noncomputable def gmaps : List (Nat × Option IntKind × List (CK × CV)) := [(0, some .i64, [(.i .i64 1, .v (.func (.func 307) #[] #[])), (.i .i64 2, .v (.func (.func 308) #[] #[])), (.i .i64 3, .v (.func (.func 310) #[] #[])), (.i .i64 4, .v (.func (.func 312) #[] #[])), (.i .i64 5, .v (.func (.func 314) #[] #[])), (.i .i64 6, .v (.func (.func 315) #[] #[]))])]
end Go.Proofs.YtacmeiclljbppaaGreatDoor.Cx
