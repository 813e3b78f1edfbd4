/-
  The schedules of the regions that draw (printed by wip/tools/sch.py).
-/
import Derived.Test.YtoofmkkcaoojiaaBxZ
namespace Go.Proofs.Ytoofmkkcaoojiaa.Ax
/-- hourbook/hourbooklaw19.SnapsOrder -/
def sch3 : List (Nat × Sched) := [(16, .take 0 (.take 1 (.take 2 (.take 3 (.take 4 (.take 5 (.take 6 (.take 7 (.take 8 (.take 9 (.take 10 (.two 11 (.two 12 (.take 13 (.take 14 (.take 15 (.done)))) (.take 13 (.take 12 (.take 14 (.take 15 (.done)))))) (.two 12 (.two 11 (.take 13 (.take 14 (.take 15 (.done)))) (.take 13 (.two 11 (.take 14 (.take 15 (.done))) (.take 14 (.take 11 (.take 15 (.done))))))) (.take 13 (.two 11 (.take 12 (.take 14 (.take 15 (.done)))) (.take 12 (.two 11 (.take 14 (.take 15 (.done))) (.take 14 (.take 11 (.take 15 (.done))))))))))))))))))))), (30, .take 0 (.take 1 (.take 2 (.take 3 (.take 4 (.take 5 (.take 6 (.take 7 (.take 8 (.take 9 (.take 10 (.take 11 (.take 12 (.take 13 (.take 14 (.take 15 (.take 16 (.take 17 (.take 18 (.take 19 (.done)))))))))))))))))))))]
/-- hourbook/hourbooklaw19.SnapsPlay -/
def sch5 : List (Nat × Sched) := [(15, .take 0 (.take 1 (.take 4 (.take 5 (.two 2 (.two 3 (.take 6 (.take 7 (.take 8 (.take 9 (.done))))) (.take 6 (.take 3 (.take 7 (.take 8 (.take 9 (.done))))))) (.take 6 (.take 2 (.take 3 (.take 7 (.take 8 (.take 9 (.done)))))))))))), (25, .take 0 (.take 1 (.take 2 (.take 3 (.take 4 (.take 5 (.take 6 (.take 7 (.take 8 (.take 9 (.take 10 (.take 11 (.take 12 (.take 13 (.take 14 (.take 15 (.take 16 (.take 17 (.two 18 (.take 19 (.take 20 (.take 21 (.take 22 (.take 23 (.take 24 (.take 25 (.take 26 (.take 27 (.take 28 (.take 30 (.take 29 (.take 31 (.take 32 (.take 33 (.take 34 (.take 35 (.take 36 (.take 38 (.take 37 (.take 39 (.take 40 (.take 41 (.take 42 (.take 43 (.take 44 (.take 46 (.take 47 (.take 48 (.two 45 (.take 49 (.take 50 (.take 51 (.take 52 (.done))))) (.take 49 (.take 50 (.take 45 (.take 51 (.take 52 (.done)))))))))))))))))))))))))))))))))))) (.take 19 (.take 18 (.take 20 (.take 21 (.take 22 (.take 23 (.take 24 (.take 25 (.take 26 (.take 27 (.take 28 (.take 30 (.take 29 (.take 31 (.take 32 (.take 33 (.take 34 (.take 35 (.take 36 (.take 38 (.take 37 (.take 39 (.take 40 (.take 41 (.take 42 (.take 43 (.take 44 (.take 46 (.take 47 (.take 48 (.two 45 (.take 49 (.take 50 (.take 51 (.take 52 (.done))))) (.take 49 (.take 50 (.take 45 (.take 51 (.take 52 (.done))))))))))))))))))))))))))))))))))))))))))))))))))))))))]
/-- (*hourbook/snaps.Snaps).Add -/
def sch7 : List (Nat × Sched) := [(12, .take 0 (.take 1 (.take 2 (.take 3 (.take 4 (.take 5 (.take 6 (.take 7 (.take 8 (.take 9 (.take 10 (.take 11 (.done)))))))))))))]
/-- slices.Equal[[]hourbook/api.Snap,hourbook/api.Snap] -/
def sch10 : List (Nat × Sched) := [(6, .take 0 (.take 1 (.take 2 (.take 3 (.take 4 (.take 5 (.take 6 (.take 7 (.take 8 (.done))))))))))]
/-- slices.Equal[[]uint64,uint64] -/
def sch11 : List (Nat × Sched) := [(6, .take 0 (.take 1 (.take 2 (.take 3 (.take 4 (.take 5 (.take 6 (.take 7 (.take 8 (.done))))))))))]
/-- (*hourbook/hourbookref19.Snaps).Add -/
def sch16 : List (Nat × Sched) := [(10, .take 0 (.take 1 (.take 2 (.take 3 (.take 4 (.take 5 (.take 6 (.take 7 (.take 8 (.take 9 (.take 10 (.take 11 (.take 12 (.take 13 (.take 14 (.take 15 (.take 16 (.done))))))))))))))))))]
/-- (*hourbook/snaps.Snaps).Copy -/
def sch18 : List (Nat × Sched) := [(3, .take 0 (.take 1 (.take 2 (.take 3 (.take 5 (.take 6 (.take 7 (.two 4 (.take 8 (.take 9 (.take 10 (.take 11 (.done))))) (.take 8 (.take 4 (.take 9 (.take 10 (.take 11 (.done))))))))))))))]
/-- (*hourbook/snaps.Snaps).Get -/
def sch19 : List (Nat × Sched) := [(2, .take 0 (.take 1 (.take 2 (.take 3 (.take 4 (.take 5 (.take 6 (.take 7 (.done)))))))))]
/-- (*hourbook/hourbookref19.Snaps).Get -/
def sch20 : List (Nat × Sched) := [(6, .take 0 (.take 1 (.take 2 (.take 3 (.take 4 (.take 5 (.take 6 (.take 7 (.take 8 (.take 9 (.take 10 (.take 11 (.take 12 (.take 13 (.take 14 (.take 15 (.take 16 (.take 17 (.take 18 (.done))))))))))))))))))))]
/-- (*hourbook/hourbookref19.Snaps).Lives -/
def sch21 : List (Nat × Sched) := [(5, .take 0 (.take 1 (.take 2 (.take 3 (.take 4 (.take 5 (.take 6 (.take 7 (.take 8 (.take 9 (.take 10 (.take 11 (.take 12 (.take 13 (.take 14 (.take 15 (.take 16 (.take 17 (.take 18 (.done))))))))))))))))))))]
/-- (*hourbook/hourbookref19.Snaps).List -/
def sch22 : List (Nat × Sched) := [(7, .take 0 (.take 1 (.take 2 (.take 3 (.take 4 (.take 5 (.take 6 (.take 7 (.take 8 (.take 9 (.take 10 (.take 11 (.take 12 (.take 13 (.take 14 (.take 15 (.take 16 (.take 17 (.take 18 (.take 19 (.take 20 (.take 21 (.take 22 (.take 23 (.take 24 (.take 25 (.take 26 (.take 27 (.take 28 (.take 29 (.take 30 (.take 31 (.take 32 (.done))))))))))))))))))))))))))))))))))]
/-- slices.Compact[[]uint64,uint64] -/
def sch30 : List (Nat × Sched) := [(6, .take 0 (.take 1 (.take 2 (.take 3 (.take 4 (.take 5 (.take 6 (.take 7 (.take 8 (.take 9 (.done))))))))))), (11, .take 0 (.take 1 (.take 2 (.take 3 (.take 4 (.take 5 (.take 6 (.take 7 (.take 8 (.take 9 (.done)))))))))))]
end Go.Proofs.Ytoofmkkcaoojiaa.Ax
