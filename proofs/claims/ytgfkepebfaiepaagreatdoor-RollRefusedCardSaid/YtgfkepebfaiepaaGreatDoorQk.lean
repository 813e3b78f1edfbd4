/-
  File systems: reading, crashes, copies.
-/
import Derived.Test.YtgfkepebfaiepaaGreatDoorQj
namespace Go.Proofs.YtgfkepebfaiepaaGreatDoor.Ax
open Go.RowKit
set_option maxRecDepth 100000
def VM.powE (v : VM) : Int := bif v.off then 20 else 0
def VM.new (q : Int) : VM := ⟨⟨[], [], [], 0⟩, [], q, false, 0, -1⟩
theorem VM.Ok.new {q : Int} (h : 0 ≤ q ∧ q ≤ 1073741824) (n B k : Nat) : (VM.new q).Ok n B k := by
 refine ⟨⟨rfl, fun j hj => ⟨?_, fun p hp => ?_⟩⟩, Nat.zero_le _, Nat.zero_le _, List.nodup_nil, (fun p hp => by cases hp), (fun p hp => by cases hp), ⟨Int.le_refl _, by show (0 : Int) ≤ _; omega⟩, ⟨by show (-1 : Int) ≤ -1; decide, by show (-1 : Int) ≤ 9223372036854775807; decide⟩, h⟩
 ·have : onAll (VM.new q).fd.safe ((VM.new q).fd.ds.take j) = [] := by simp [VM.new, onAll]
  rw [this]
  exact IOk.none _ _
 ·have : onAll (VM.new q).fd.safe ((VM.new q).fd.ds.take j) = [] := by simp [VM.new, onAll]
  rw [this] at hp
  cases hp
def quotB (q : Int) : Bool := decide (0 ≤ q ∧ q ≤ 1073741824)
theorem quotas_ok (q : Int) : AFn Go.Proofs.Tryz.prog 70 [AV.int .i64 q] ⟨0, []⟩ (fun _ : Unit => AV.bool (quotB q)) (fun _ => ⟨0, []⟩) := by
 refine ACall.fin ?_
 refine ACall.walk (C := cfg 9 0) (cfgOk _ _) [] (fn := Go.Proofs.Tryz.f70) (by kernel_rfl) (by kernel_rfl) rfl (by kernel_rfl) (by kernel_rfl) rfl rfl ?_
 refine goA ?_
 by_cases h1 : q ≥ 0
 ·rw [decide_eq_true h1]
  refine goA ?_
  refine ⟨_, _, Ent.mk' (e' := [(0, AV.bool (quotB q))]) (H' := ⟨0, []⟩) [] (by kernel_rfl) ?_ ?_, (), rfl, rfl⟩
  ·exact ⟨AVE.bool (by unfold quotB; rw [decide_eq_decide]; omega), trivial⟩
  ·trivial
 ·rw [decide_eq_false h1]
  refine goA ?_
  refine ⟨_, _, Ent.mk' (e' := [(0, AV.bool (quotB q))]) (H' := ⟨0, []⟩) [] (by kernel_rfl) ?_ ?_, (), rfl, rfl⟩
  ·exact ⟨AVE.bool (by unfold quotB; rw [eq_comm, decide_eq_false_iff_not]; omega), trivial⟩
  ·trivial
theorem new_fs (q : Int) (h : 0 ≤ q ∧ q ≤ 1073741824) : AFn Go.Proofs.Tryz.prog 17 [AV.int .i64 q] ⟨0, []⟩ (fun _ : Unit => .tup [.ptr 0 0, AV.int .i64 0]) (fun _ => fone (VM.new q)) := by
 refine ACall.fin ?_
 refine ACall.walk (C := cfg 12 0) (cfgOk _ _) [] (fn := Go.Proofs.Tryz.f17) (by kernel_rfl) (by kernel_rfl) rfl (by kernel_rfl) (by kernel_rfl) rfl rfl ?_
 refine goA ?_
 refine AFn.useA [] (quotas_ok q) fun _ => ?_
 rw [show quotB q = true from decide_eq_true h]
 refine goA ?_
 refine AFn.useA [] (new_ok) fun _ => ?_
 refine goA ?_
 refine ⟨_, _, Ent.trans (HEnt.ent (HEnt.objs0 FI.H _)) (Ent.trans (HEnt.ent (HEnt.close [2, 0, 1, 3] 2 (SM.H ⟨⟨[], [], [], 0⟩, [], q, false, 0, -1⟩) (by kernel_rfl) (by repeat' first | exact trivial | refine ⟨rfl, ?_⟩))) (Ent.trans (HEnt.ent (HEnt.chunk (h := 2) rfl (ChE.exS (p := fun s : SM => s.At (VM.new q)) (F := SM.H) ⟨⟨[], [], [], 0⟩, [], q, false, 0, -1⟩ ⟨rfl, List.nodup_nil⟩))) (Ent.mk' (e' := [(0, .tup [.ptr 0 0, AV.int .i64 0])]) (H' := fone (VM.new q)) [some 2] (by kernel_rfl) ⟨AVE.refl _, trivial⟩ ⟨⟨_, rfl, ChE.refl _⟩, trivial⟩))), (), rfl, rfl⟩
def VM.openE (v : VM) (x : List UInt8) : Int := if v.off = true then 20 else v.findE x
def VM.size (v : VM) (x : List UInt8) : Int := if v.openE x = 0 then ((v.file x).now.length : Int) else 0
def VM.readE (v : VM) (x : List UInt8) (a m : Int) : Int := if v.openE x = 0 then (v.file x).readE a m else v.openE x
def VM.read (v : VM) (x : List UInt8) (a m : Int) : List UInt8 := if v.openE x = 0 then (v.file x).read a m else []
def VM.list (v : VM) : List (List UInt8) := if v.off = true then [] else (lsN v.fd.now).map (·.1)
section
variable (s : SM) {n B k : Nat} {v : VM} (hs : s.At v) (h : v.Ok n B k)
include hs
theorem power_at : AFn Go.Proofs.Tryz.prog 78 [.ptr 0 0] s.H (fun _ : Unit => AV.int .i64 v.powE) (fun _ => s.H) := by
 have hv := hs.val
 subst hv
 exact power_in s
theorem open_no {x : List UInt8} (h0 : v.openE x ≠ 0) : AFn Go.Proofs.Tryz.prog 121 [.ptr 0 0, .str x] s.H (fun _ : Unit => .tup [AV.nilPtr, AV.int .i64 (v.openE x)]) (fun _ => s.H) := by
 have hv := hs.val
 have hE : v.openE x = if s.off = true then 20 else (bif !mayB x then 1 else bif (afind s.fd.now x).isSome then 0 else 6) := by rw [← hv]; rfl
 refine ACall.fin ?_
 refine ACall.walk (C := cfg 17 4) (cfgOk _ _) [] (fn := Go.Proofs.Tryz.f121) (by kernel_rfl) (by kernel_rfl) rfl (by kernel_rfl) (by kernel_rfl) rfl rfl ?_
 refine goA ?_
 refine AFn.useA [0, 1, 2, 3] (power_at s hs) fun _ => ?_
 rcases Bool.eq_false_or_eq_true v.off with ho | ho
 ·have hso : s.off = true := by rw [← hv] at ho; exact ho
  rw [show v.powE = 20 by simp [VM.powE, ho], show v.openE x = 20 by rw [hE, if_pos hso]]
  refine goA ?_
  refine ⟨_, _, Ent.mk' (e' := [(0, .tup [AV.nilPtr, AV.int .i64 20])]) (H' := s.H) [some 0, some 1, some 2, some 3] (by kernel_rfl) ?_ ?_, (), rfl, rfl⟩
  ·exact ⟨AVE.refl _, trivial⟩
  ·exact subC
 ·have hso : ¬ s.off = true := by rw [← hv] at ho; simpa using ho
  rw [if_neg hso] at hE
  rw [show v.powE = 0 by simp [VM.powE, ho]]
  refine goA ?_
  cases hm : mayB x with
  | false =>
    rw [show v.openE x = 1 by rw [hE, hm]; rfl]
    refine AFn.useA [0, 1, 2, 3] (find_bad s x hm) fun _ => ?_
    refine goA ?_
    refine ⟨_, _, Ent.mk' (e' := [(0, .tup [AV.nilPtr, AV.int .i64 1])]) (H' := s.H) [some 0, some 1, some 2, some 3] (by kernel_rfl) ?_ ?_, (), rfl, rfl⟩
    ·exact ⟨AVE.refl _, trivial⟩
    ·exact subC
  | true =>
    cases hf : afind s.fd.now x with
    | none =>
      rw [show v.openE x = 6 by rw [hE, hm, hf]; rfl]
      refine AFn.useA [0, 1, 2, 3] (find_no s x hm hf) fun _ => ?_
      refine goA ?_
      refine ⟨_, _, Ent.mk' (e' := [(0, .tup [AV.nilPtr, AV.int .i64 6])]) (H' := s.H) [some 0, some 1, some 2, some 3] (by kernel_rfl) ?_ ?_, (), rfl, rfl⟩
      ·exact ⟨AVE.refl _, trivial⟩
      ·exact subC
    | some m => exact absurd (by rw [hE, hm, hf]; rfl) h0
include h
theorem open_yes {x : List UInt8} (h0 : v.openE x = 0) : ∃ m b, ffind v.fs m = some (v.file x) ∧ (s.fs.find? fun p => decide (p.1 = m)) = some (m, b, v.file x) ∧ AFn Go.Proofs.Tryz.prog 121 [.ptr 0 0, .str x] s.H (fun _ : Unit => .tup [ptrV b, AV.int .i64 0]) (fun _ => s.H) := by
 have hv := hs.val
 have ho : v.off = false := by
  cases ho : v.off with
  | false => rfl
  | true => simp [VM.openE, ho] at h0
 have hF : v.findE x = 0 := by simpa [VM.openE, ho] using h0
 obtain ⟨hm, m, hf⟩ := findE_zero hF
 obtain ⟨f, h1⟩ := h.led x m hf
 obtain ⟨b, h2⟩ := at_find hs h1
 have ef : v.file x = f := by unfold VM.file; rw [hf]; simp [h1]
 have hf' : afind s.fd.now x = some m := by rw [← hv] at hf; exact hf
 refine ⟨m, b, by rw [ef]; exact h1, by rw [ef]; exact h2, ?_⟩
 refine ACall.fin ?_
 refine ACall.walk (C := cfg 17 4) (cfgOk _ _) [] (fn := Go.Proofs.Tryz.f121) (by kernel_rfl) (by kernel_rfl) rfl (by kernel_rfl) (by kernel_rfl) rfl rfl ?_
 refine goA ?_
 refine AFn.useA [0, 1, 2, 3] (power_at s hs) fun _ => ?_
 rw [show v.powE = 0 by simp [VM.powE, ho]]
 refine goA ?_
 refine AFn.useA [0, 1, 2, 3] (find_yes s x m b f hm hf' h2) fun _ => ?_
 refine goA ?_
 refine ⟨_, _, Ent.mk' (e' := [(0, .tup [ptrV b, AV.int .i64 0])]) (H' := s.H) [some 0, some 1, some 2, some 3] (by kernel_rfl) ?_ ?_, (), rfl, rfl⟩
 ·exact ⟨AVE.refl _, trivial⟩
 ·exact subC
theorem readAt_s (hB : B ≤ 80000000) (x : List UInt8) (a m : Int) : AFn Go.Proofs.Tryz.prog 112 [.ptr 0 0, .str x, AV.int .i64 a, AV.int .i64 m] s.H (fun _ : Unit => .tup [.iv (.bs (v.read x a m)), AV.int .i64 (v.readE x a m)]) (fun _ => s.H) := by
 refine ACall.fin ?_
 refine ACall.walk (C := cfg 27 4) (cfgOk _ _) [] (fn := Go.Proofs.Tryz.f112) (by kernel_rfl) (by kernel_rfl) rfl (by kernel_rfl) (by kernel_rfl) rfl rfl ?_
 refine goA ?_
 by_cases h0 : v.openE x = 0
 ·obtain ⟨m', b, h1, h2, h3⟩ := open_yes s hs h h0
  rw [show v.readE x a m = (v.file x).readE a m from if_pos h0, show v.read x a m = (v.file x).read a m from if_pos h0]
  refine AFn.useA [0, 1, 2, 3] (h3) fun _ => ?_
  refine goA ?_
  refine AFn.useA [0, 1, 2, 3] (read_at s hs.nd h2 a m (by have := (h.file h1).len; omega)) fun _ => ?_
  refine goA ?_
  refine ⟨_, _, Ent.mk' (e' := [(0, .tup [.iv (.bs ((v.file x).read a m)), AV.int .i64 ((v.file x).readE a m)])]) (H' := s.H) [some 0, some 1, some 2, some 3] (by kernel_rfl) ?_ ?_, (), rfl, rfl⟩
  ·exact ⟨AVE.refl _, trivial⟩
  ·exact subC
 ·rw [show v.readE x a m = v.openE x from if_neg h0, show v.read x a m = [] from if_neg h0]
  refine AFn.useA [0, 1, 2, 3] (open_no s hs h0) fun _ => ?_
  refine goA ?_
  refine ifdA (fun g => ?_) (fun g => ?_) <;> (try dsimp only at g)
  ·refine goA ?_
   refine ⟨_, _, Ent.mk' (e' := [(0, .tup [.iv (.bs []), AV.int .i64 (v.openE x)])]) (H' := s.H) [some 0, some 1, some 2, some 3] (by kernel_rfl) ?_ ?_, (), rfl, rfl⟩
   ·exact ⟨AVE.tupE ⟨AVE.nilBs, AVE.refl _, rfl⟩, trivial⟩
   ·exact subC
  ·exact absurd g h0
omit h
end
end Go.Proofs.YtgfkepebfaiepaaGreatDoor.Ax

namespace Go.Proofs.YtgfkepebfaiepaaGreatDoor.Ax
open Go.RowKit
set_option maxRecDepth 100000
def iF (P : List Int) (i : Nat) : List IV := [.v (.int .i64 (P.getD i 0))]
@[reducible] def iRow (P : List Int) : IV := .sl 1 P.length (iF P)
def pickN (P : List Int) (L : Nat) : Nat := match P with
 | [] => 0
 | p :: _ => p.toNat % (L + 1)
def cs1 (st : List Int × List (Nat × FI)) (x : Nat) : List Int × List (Nat × FI) :=
 (st.1.tail, fset st.2 x (((ffind st.2 x).getD ⟨[], [], []⟩).crash (pickN st.1 (fl ((ffind st.2 x).getD ⟨[], [], []⟩).ds))))
def csN (P : List Int) (fs : List (Nat × FI)) (l : List Nat) : List Int × List (Nat × FI) := l.foldl cs1 (P, fs)
def VM.crash1 (P : List Int) (v : VM) : VM := VM.clean { v with fd := v.fd.crash (pickN P v.fd.ds.length) }
def VM.crash (P : List Int) (v : VM) : VM := { v.crash1 P with fs := (csN P.tail (v.crash1 P).fs (v.crash1 P).fd.live).2, off := false, fuse := -1 }
section
variable {n B k : Nat} {v : VM} (h : v.Ok n B k)
include h
end
structure CrS (v : VM) (P : List Int) where
 i : Nat
 hi : i ≤ (v.crash1 P).fd.live.length
 s : SM
 hs : s.At { v.crash1 P with fs := (csN P.tail (v.crash1 P).fs ((v.crash1 P).fd.live.take i)).2 }
section
variable (s : SM) {n B k : Nat} {v : VM} (hs : s.At v) (h : v.Ok n B k) (hn : n ≤ 490) (hB : B ≤ 80000000)
include hs
include h hn hB
end
end Go.Proofs.YtgfkepebfaiepaaGreatDoor.Ax

namespace Go.Proofs.YtgfkepebfaiepaaGreatDoor.Ax
open Go.RowKit
set_option maxRecDepth 100000
theorem AFn.keep {P : Program} {f : FuncId} {args : List AV} {r : AV} {s : SM} {v : VM} (hs : s.At v) (h : AFn P f args s.H (fun _ : Unit => r) fun _ => s.H) : AFn P f args s.H (fun _ : { s' : SM // s'.At v } => r) fun s' => s'.1.H :=
 h.say fun _ => ⟨⟨s, hs⟩, AVE.refl _, rfl⟩
section
variable {n B k : Nat} {v : VM} (h : v.Ok n B k) (hn : n ≤ 490) (hB : B ≤ 80000000) (hk : k ≤ 900000000)
include h hn hB hk
theorem fsCreate (x : List UInt8) : AFn Go.Proofs.Tryz.prog 139 [.ptr 0 0, .str x] (fone v) (fun _ : Unit => AV.int .i64 (v.createE x)) (fun _ => fone (v.create x)) := AFn.val fun s hs => AFn.shut (create_s s hs h hn hB hk x) rfl rfl (fun _ => ⟨by kernel_rfl, by kernel_rfl⟩) (fun _ => (by repeat' first | exact trivial | refine ⟨rfl, ?_⟩)) (fun _ => rfl)
theorem fsRemove (x : List UInt8) : AFn Go.Proofs.Tryz.prog 144 [.ptr 0 0, .str x] (fone v) (fun _ : Unit => AV.int .i64 (v.removeE x)) (fun _ => fone (v.remove x)) := AFn.val fun s hs => AFn.shut (remove_s s hs h hn hB hk x) rfl rfl (fun _ => ⟨by kernel_rfl, by kernel_rfl⟩) (fun _ => (by repeat' first | exact trivial | refine ⟨rfl, ?_⟩)) (fun _ => rfl)
theorem fsSyncDir : AFn Go.Proofs.Tryz.prog 143 [.ptr 0 0] (fone v) (fun _ : Unit => AV.int .i64 v.syncDirE) (fun _ => fone v.syncDir) := AFn.val fun s hs => AFn.shut (syncDir_s s hs h hn hB hk) rfl rfl (fun _ => ⟨by kernel_rfl, by kernel_rfl⟩) (fun _ => (by repeat' first | exact trivial | refine ⟨rfl, ?_⟩)) (fun _ => rfl)
theorem fsAppend (x c : List UInt8) (hc : c.length ≤ 10000000) : AFn Go.Proofs.Tryz.prog 124 [.ptr 0 0, .str x, .iv (.bs c)] (fone v) (fun _ : Unit => AV.int .i64 (v.appendE x c)) (fun _ => fone (v.append x c)) := AFn.val fun s hs => AFn.shut (append_s s hs h hn hB hk x c hc) rfl rfl (fun _ => ⟨by kernel_rfl, by kernel_rfl⟩) (fun _ => (by repeat' first | exact trivial | refine ⟨rfl, ?_⟩)) (fun _ => rfl)
theorem fsSync (x : List UInt8) : AFn Go.Proofs.Tryz.prog 120 [.ptr 0 0, .str x] (fone v) (fun _ : Unit => AV.int .i64 (v.syncE x)) (fun _ => fone (v.sync x)) := AFn.val fun s hs => AFn.shut (sync_s s hs h hn hB hk x) rfl rfl (fun _ => ⟨by kernel_rfl, by kernel_rfl⟩) (fun _ => (by repeat' first | exact trivial | refine ⟨rfl, ?_⟩)) (fun _ => rfl)
omit hk
omit hB
omit hn
include hB
theorem fsReadAt (x : List UInt8) (a m : Int) : AFn Go.Proofs.Tryz.prog 112 [.ptr 0 0, .str x, AV.int .i64 a, AV.int .i64 m] (fone v) (fun _ : Unit => .tup [.iv (.bs (v.read x a m)), AV.int .i64 (v.readE x a m)]) (fun _ => fone v) := AFn.val fun s hs => AFn.shut (AFn.keep hs (readAt_s s hs h hB x a m)) rfl rfl (fun _ => ⟨by kernel_rfl, by kernel_rfl⟩) (fun _ => (by repeat' first | exact trivial | refine ⟨rfl, ?_⟩)) (fun _ => rfl)
omit hB
omit h
end
end Go.Proofs.YtgfkepebfaiepaaGreatDoor.Ax
