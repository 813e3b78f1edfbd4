/-
  Closed runs: maps that start-up lays and nobody writes.
-/
import Derived.Test.YtjhaikcokbmdbaaGreatDoorCxA0
namespace Go.Proofs.YtjhaikcokbmdbaaGreatDoor.Cx
open Go.RowKit Go.Proofs.YtjhaikcokbmdbaaGreatDoor.Ax

/-- The variable, the kind of its map's keys, the entries. -/
noncomputable def gmaps : List (Nat × KK × List (CK × CV)) := [(0, .i .i64, [(.i .i64 1, .v (.func (.func 456) #[] #[])), (.i .i64 2, .v (.func (.func 457) #[] #[])), (.i .i64 3, .v (.func (.func 459) #[] #[])), (.i .i64 4, .v (.func (.func 461) #[] #[])), (.i .i64 5, .v (.func (.func 462) #[] #[])), (.i .i64 6, .v (.func (.func 463) #[] #[]))])]
end Go.Proofs.YtjhaikcokbmdbaaGreatDoor.Cx
