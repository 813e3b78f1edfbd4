/-
  File systems: reading, crashes, copies.
-/
import Derived.Test.YtgfkepebfaiepaaGreatDoorQj
namespace Go.Proofs.YtgfkepebfaiepaaGreatDoor.Ax
open Go.RowKit
set_option maxRecDepth 100000
def VM.new (q : Int) : VM := ⟨⟨[], [], [], 0⟩, [], q, false, 0, -1⟩
theorem VM.Ok.new {q : Int} (h : 0 ≤ q ∧ q ≤ 1073741824) (n B k : Nat) : (VM.new q).Ok n B k := by
 refine ⟨⟨rfl, fun j hj => ⟨?_, fun p hp => ?_⟩⟩, Nat.zero_le _, Nat.zero_le _, List.nodup_nil, (fun p hp => by cases hp), (fun p hp => by cases hp), ⟨Int.le_refl _, by show (0 : Int) ≤ _; omega⟩, ⟨by show (-1 : Int) ≤ -1; decide, by show (-1 : Int) ≤ 9223372036854775807; decide⟩, h⟩
 ·have : onAll (VM.new q).fd.safe ((VM.new q).fd.ds.take j) = [] := by simp [VM.new, onAll]
  rw [this]
  exact IOk.none _ _
 ·have : onAll (VM.new q).fd.safe ((VM.new q).fd.ds.take j) = [] := by simp [VM.new, onAll]
  rw [this] at hp
  cases hp
def quotB (q : Int) : Bool := decide (0 ≤ q ∧ q ≤ 1073741824)
theorem quotas_ok (q : Int) : AFn Go.Proofs.Tryz.prog 70 [AV.int .i64 q] ⟨0, []⟩ (fun _ : Unit => AV.bool (quotB q)) (fun _ => ⟨0, []⟩) := by
 refine ACall.fin ?_
 refine ACall.walk (C := cfg 9 0) (cfgOk _ _) [] (fn := Go.Proofs.Tryz.f70) (by kernel_rfl) (by kernel_rfl) rfl (by kernel_rfl) (by kernel_rfl) rfl rfl ?_
 refine goA ?_
 by_cases h1 : q ≥ 0
 ·rw [decide_eq_true h1]
  refine goA ?_
  refine ⟨_, _, Ent.mk' (e' := [(0, AV.bool (quotB q))]) (H' := ⟨0, []⟩) [] (by kernel_rfl) ?_ ?_, (), rfl, rfl⟩
  ·exact ⟨AVE.bool (by unfold quotB; rw [decide_eq_decide]; omega), trivial⟩
  ·trivial
 ·rw [decide_eq_false h1]
  refine goA ?_
  refine ⟨_, _, Ent.mk' (e' := [(0, AV.bool (quotB q))]) (H' := ⟨0, []⟩) [] (by kernel_rfl) ?_ ?_, (), rfl, rfl⟩
  ·exact ⟨AVE.bool (by unfold quotB; rw [eq_comm, decide_eq_false_iff_not]; omega), trivial⟩
  ·trivial
theorem new_fs (q : Int) (h : 0 ≤ q ∧ q ≤ 1073741824) : AFn Go.Proofs.Tryz.prog 17 [AV.int .i64 q] ⟨0, []⟩ (fun _ : Unit => .tup [.ptr 0 0, AV.int .i64 0]) (fun _ => fone (VM.new q)) := by
 refine ACall.fin ?_
 refine ACall.walk (C := cfg 12 0) (cfgOk _ _) [] (fn := Go.Proofs.Tryz.f17) (by kernel_rfl) (by kernel_rfl) rfl (by kernel_rfl) (by kernel_rfl) rfl rfl ?_
 refine goA ?_
 refine AFn.useA [] (quotas_ok q) fun _ => ?_
 rw [show quotB q = true from decide_eq_true h]
 refine goA ?_
 refine AFn.useA [] (new_ok) fun _ => ?_
 refine goA ?_
 refine ⟨_, _, Ent.trans (HEnt.ent (HEnt.objs0 FI.H _)) (Ent.trans (HEnt.ent (HEnt.close [2, 0, 1, 3] 2 (SM.H ⟨⟨[], [], [], 0⟩, [], q, false, 0, -1⟩) (by kernel_rfl) (by repeat' first | exact trivial | refine ⟨rfl, ?_⟩))) (Ent.trans (HEnt.ent (HEnt.chunk (h := 2) rfl (ChE.exS (p := fun s : SM => s.At (VM.new q)) (F := SM.H) ⟨⟨[], [], [], 0⟩, [], q, false, 0, -1⟩ ⟨rfl, List.nodup_nil⟩))) (Ent.mk' (e' := [(0, .tup [.ptr 0 0, AV.int .i64 0])]) (H' := fone (VM.new q)) [some 2] (by kernel_rfl) ⟨AVE.refl _, trivial⟩ ⟨⟨_, rfl, ChE.refl _⟩, trivial⟩))), (), rfl, rfl⟩
def VM.openE (v : VM) (x : List UInt8) : Int := if v.off = true then 20 else v.findE x
def VM.size (v : VM) (x : List UInt8) : Int := if v.openE x = 0 then ((v.file x).now.length : Int) else 0
def VM.readE (v : VM) (x : List UInt8) (a m : Int) : Int := if v.openE x = 0 then (v.file x).readE a m else v.openE x
def VM.read (v : VM) (x : List UInt8) (a m : Int) : List UInt8 := if v.openE x = 0 then (v.file x).read a m else []
def VM.list (v : VM) : List (List UInt8) := if v.off = true then [] else (lsN v.fd.now).map (·.1)
section
variable (s : SM) {n B k : Nat} {v : VM} (hs : s.At v) (h : v.Ok n B k)
include hs
include h
omit h
end
end Go.Proofs.YtgfkepebfaiepaaGreatDoor.Ax

namespace Go.Proofs.YtgfkepebfaiepaaGreatDoor.Ax
open Go.RowKit
set_option maxRecDepth 100000
def pickN (P : List Int) (L : Nat) : Nat := match P with
 | [] => 0
 | p :: _ => p.toNat % (L + 1)
def cs1 (st : List Int × List (Nat × FI)) (x : Nat) : List Int × List (Nat × FI) :=
 (st.1.tail, fset st.2 x (((ffind st.2 x).getD ⟨[], [], []⟩).crash (pickN st.1 (fl ((ffind st.2 x).getD ⟨[], [], []⟩).ds))))
def csN (P : List Int) (fs : List (Nat × FI)) (l : List Nat) : List Int × List (Nat × FI) := l.foldl cs1 (P, fs)
def VM.crash1 (P : List Int) (v : VM) : VM := VM.clean { v with fd := v.fd.crash (pickN P v.fd.ds.length) }
def VM.crash (P : List Int) (v : VM) : VM := { v.crash1 P with fs := (csN P.tail (v.crash1 P).fs (v.crash1 P).fd.live).2, off := false, fuse := -1 }
section
variable {n B k : Nat} {v : VM} (h : v.Ok n B k)
include h
theorem VM.Ok.crash0 (K : Int) : VM.Ok n B k { v with fd := v.fd.crash K } :=
 ⟨h.fd.crash K, Nat.zero_le _, h.last, h.nd, h.le, h.files, h.steps, h.fuse, h.quota⟩
theorem VM.Ok.crash1 (P : List Int) : (v.crash1 P).Ok n B k := (h.crash0 _).clean
theorem VM.Ok.csN (P : List Int) : ∀ l : List Nat, VM.Ok n B k { v with fs := (Ax.csN P v.fs l).2 } := by
 have key : ∀ (l : List Nat) (st : List Int × List (Nat × FI)), VM.Ok n B k { v with fs := st.2 } → VM.Ok n B k { v with fs := (l.foldl cs1 st).2 } := by
  intro l
  induction l with
  | nil => intro st h; exact h
  | cons x l ih =>
    intro st h
    refine ih (cs1 st x) ?_
    refine h.fset (x := x) ?_
    cases hf : ffind st.2 x with
    | none => exact (FI.Ok.rest n B (Nat.zero_le _)).crash _
    | some f => exact (h.file hf).crash _
 exact fun l => key l (P, v.fs) h
theorem VM.Ok.crash (P : List Int) : (v.crash P).Ok n B k := by
 have h1 := (h.crash1 P).csN P.tail (v.crash1 P).fd.live
 exact ⟨h1.fd, h1.ds, h1.last, h1.nd, h1.le, h1.files, h1.steps, ⟨by show (-1 : Int) ≤ -1; decide, by show (-1 : Int) ≤ 9223372036854775807; decide⟩, h1.quota⟩
end
structure CrS (v : VM) (P : List Int) where
 i : Nat
 hi : i ≤ (v.crash1 P).fd.live.length
 s : SM
 hs : s.At { v.crash1 P with fs := (csN P.tail (v.crash1 P).fs ((v.crash1 P).fd.live.take i)).2 }
section
variable (s : SM) {n B k : Nat} {v : VM} (hs : s.At v) (h : v.Ok n B k) (hn : n ≤ 490) (hB : B ≤ 80000000)
include hs
include h hn hB
end
end Go.Proofs.YtgfkepebfaiepaaGreatDoor.Ax

namespace Go.Proofs.YtgfkepebfaiepaaGreatDoor.Ax
open Go.RowKit
set_option maxRecDepth 100000
theorem AFn.keep {P : Program} {f : FuncId} {args : List AV} {r : AV} {s : SM} {v : VM} (hs : s.At v) (h : AFn P f args s.H (fun _ : Unit => r) fun _ => s.H) : AFn P f args s.H (fun _ : { s' : SM // s'.At v } => r) fun s' => s'.1.H :=
 h.say fun _ => ⟨⟨s, hs⟩, AVE.refl _, rfl⟩
section
variable {n B k : Nat} {v : VM} (h : v.Ok n B k) (hn : n ≤ 490) (hB : B ≤ 80000000) (hk : k ≤ 900000000)
include h hn hB hk
theorem fsCreate (x : List UInt8) : AFn Go.Proofs.Tryz.prog 139 [.ptr 0 0, .str x] (fone v) (fun _ : Unit => AV.int .i64 (v.createE x)) (fun _ => fone (v.create x)) := AFn.val fun s hs => AFn.shut (create_s s hs h hn hB hk x) rfl rfl (fun _ => ⟨by kernel_rfl, by kernel_rfl⟩) (fun _ => (by repeat' first | exact trivial | refine ⟨rfl, ?_⟩)) (fun _ => rfl)
theorem fsSyncDir : AFn Go.Proofs.Tryz.prog 143 [.ptr 0 0] (fone v) (fun _ : Unit => AV.int .i64 v.syncDirE) (fun _ => fone v.syncDir) := AFn.val fun s hs => AFn.shut (syncDir_s s hs h hn hB hk) rfl rfl (fun _ => ⟨by kernel_rfl, by kernel_rfl⟩) (fun _ => (by repeat' first | exact trivial | refine ⟨rfl, ?_⟩)) (fun _ => rfl)
theorem fsAppend (x c : List UInt8) (hc : c.length ≤ 10000000) : AFn Go.Proofs.Tryz.prog 124 [.ptr 0 0, .str x, .iv (.bs c)] (fone v) (fun _ : Unit => AV.int .i64 (v.appendE x c)) (fun _ => fone (v.append x c)) := AFn.val fun s hs => AFn.shut (append_s s hs h hn hB hk x c hc) rfl rfl (fun _ => ⟨by kernel_rfl, by kernel_rfl⟩) (fun _ => (by repeat' first | exact trivial | refine ⟨rfl, ?_⟩)) (fun _ => rfl)
theorem fsSync (x : List UInt8) : AFn Go.Proofs.Tryz.prog 120 [.ptr 0 0, .str x] (fone v) (fun _ : Unit => AV.int .i64 (v.syncE x)) (fun _ => fone (v.sync x)) := AFn.val fun s hs => AFn.shut (sync_s s hs h hn hB hk x) rfl rfl (fun _ => ⟨by kernel_rfl, by kernel_rfl⟩) (fun _ => (by repeat' first | exact trivial | refine ⟨rfl, ?_⟩)) (fun _ => rfl)
omit hk
omit hB
omit hn
include hB
omit hB
omit h
end
end Go.Proofs.YtgfkepebfaiepaaGreatDoor.Ax
