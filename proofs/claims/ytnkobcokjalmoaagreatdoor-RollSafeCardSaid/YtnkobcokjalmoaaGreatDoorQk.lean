/-
  File systems: reading, crashes, copies.
-/
import Derived.Test.YtnkobcokjalmoaaGreatDoorQj
namespace Go.Proofs.YtnkobcokjalmoaaGreatDoor.Ax
open Go.RowKit
set_option maxRecDepth 100000
def VM.powE (v : VM) : Int := bif v.off then 20 else 0
def VM.new (q : Int) : VM := ⟨⟨[], [], [], 0⟩, [], q, false, 0, -1⟩
theorem VM.Ok.new {q : Int} (h : 0 ≤ q ∧ q ≤ 1073741824) (n B k : Nat) : (VM.new q).Ok n B k := by
 refine ⟨⟨rfl, fun j hj => ⟨?_, fun p hp => ?_⟩⟩, Nat.zero_le _, Nat.zero_le _, List.nodup_nil, (fun p hp => by cases hp), (fun p hp => by cases hp), ⟨Int.le_refl _, by show (0 : Int) ≤ _; omega⟩, ⟨by show (-1 : Int) ≤ -1; decide, by show (-1 : Int) ≤ 9223372036854775807; decide⟩, h⟩
 ·have : onAll (VM.new q).fd.safe ((VM.new q).fd.ds.take j) = [] := by simp [VM.new, onAll]
  rw [this]
  exact IOk.none _ _
 ·have : onAll (VM.new q).fd.safe ((VM.new q).fd.ds.take j) = [] := by simp [VM.new, onAll]
  rw [this] at hp
  cases hp
def quotB (q : Int) : Bool := decide (0 ≤ q ∧ q ≤ 1073741824)
theorem quotas_ok (q : Int) : AFn Go.Proofs.Tryz.prog 71 [AV.int .i64 q] ⟨0, []⟩ (fun _ : Unit => AV.bool (quotB q)) (fun _ => ⟨0, []⟩) := by
 refine ACall.fin ?_
 refine ACall.walk (C := cfg 9 0) (cfgOk _ _) [] (fn := Go.Proofs.Tryz.f71) (by kernel_rfl) (by kernel_rfl) rfl (by kernel_rfl) (by kernel_rfl) rfl rfl ?_
 refine goA ?_
 by_cases h1 : q ≥ 0
 ·rw [decide_eq_true h1]
  refine goA ?_
  refine ⟨_, _, Ent.mk' (e' := [(0, AV.bool (quotB q))]) (H' := ⟨0, []⟩) [] (by kernel_rfl) ?_ ?_, (), rfl, rfl⟩
  ·exact ⟨AVE.bool (by unfold quotB; rw [decide_eq_decide]; omega), trivial⟩
  ·trivial
 ·rw [decide_eq_false h1]
  refine goA ?_
  refine ⟨_, _, Ent.mk' (e' := [(0, AV.bool (quotB q))]) (H' := ⟨0, []⟩) [] (by kernel_rfl) ?_ ?_, (), rfl, rfl⟩
  ·exact ⟨AVE.bool (by unfold quotB; rw [eq_comm, decide_eq_false_iff_not]; omega), trivial⟩
  ·trivial
theorem new_fs (q : Int) (h : 0 ≤ q ∧ q ≤ 1073741824) : AFn Go.Proofs.Tryz.prog 17 [AV.int .i64 q] ⟨0, []⟩ (fun _ : Unit => .tup [.ptr 0 0, AV.int .i64 0]) (fun _ => fone (VM.new q)) := by
 refine ACall.fin ?_
 refine ACall.walk (C := cfg 12 0) (cfgOk _ _) [] (fn := Go.Proofs.Tryz.f17) (by kernel_rfl) (by kernel_rfl) rfl (by kernel_rfl) (by kernel_rfl) rfl rfl ?_
 refine goA ?_
 refine AFn.useA [] (quotas_ok q) fun _ => ?_
 rw [show quotB q = true from decide_eq_true h]
 refine goA ?_
 refine AFn.useA [] (new_ok) fun _ => ?_
 refine goA ?_
 refine ⟨_, _, Ent.trans (HEnt.ent (HEnt.objs0 FI.H _)) (Ent.trans (HEnt.ent (HEnt.close [2, 0, 1, 3] 2 (SM.H ⟨⟨[], [], [], 0⟩, [], q, false, 0, -1⟩) (by kernel_rfl) (by repeat' first | exact trivial | refine ⟨rfl, ?_⟩))) (Ent.trans (HEnt.ent (HEnt.chunk (h := 2) rfl (ChE.exS (p := fun s : SM => s.At (VM.new q)) (F := SM.H) ⟨⟨[], [], [], 0⟩, [], q, false, 0, -1⟩ ⟨rfl, List.nodup_nil⟩))) (Ent.mk' (e' := [(0, .tup [.ptr 0 0, AV.int .i64 0])]) (H' := fone (VM.new q)) [some 2] (by kernel_rfl) ⟨AVE.refl _, trivial⟩ ⟨⟨_, rfl, ChE.refl _⟩, trivial⟩))), (), rfl, rfl⟩
def VM.openE (v : VM) (x : List UInt8) : Int := if v.off = true then 20 else v.findE x
def VM.size (v : VM) (x : List UInt8) : Int := if v.openE x = 0 then ((v.file x).now.length : Int) else 0
def VM.readE (v : VM) (x : List UInt8) (a m : Int) : Int := if v.openE x = 0 then (v.file x).readE a m else v.openE x
def VM.read (v : VM) (x : List UInt8) (a m : Int) : List UInt8 := if v.openE x = 0 then (v.file x).read a m else []
def VM.list (v : VM) : List (List UInt8) := if v.off = true then [] else (lsN v.fd.now).map (·.1)
section
variable (s : SM) {n B k : Nat} {v : VM} (hs : s.At v) (h : v.Ok n B k)
include hs
theorem power_at : AFn Go.Proofs.Tryz.prog 105 [.ptr 0 0] s.H (fun _ : Unit => AV.int .i64 v.powE) (fun _ => s.H) := by
 have hv := hs.val
 subst hv
 exact power_in s
theorem open_no {x : List UInt8} (h0 : v.openE x ≠ 0) : AFn Go.Proofs.Tryz.prog 82 [.ptr 0 0, .str x] s.H (fun _ : Unit => .tup [AV.nilPtr, AV.int .i64 (v.openE x)]) (fun _ => s.H) := by
 have hv := hs.val
 have hE : v.openE x = if s.off = true then 20 else (bif !mayB x then 1 else bif (afind s.fd.now x).isSome then 0 else 6) := by rw [← hv]; rfl
 refine ACall.fin ?_
 refine ACall.walk (C := cfg 17 4) (cfgOk _ _) [] (fn := Go.Proofs.Tryz.f82) (by kernel_rfl) (by kernel_rfl) rfl (by kernel_rfl) (by kernel_rfl) rfl rfl ?_
 refine goA ?_
 refine AFn.useA [0, 1, 2, 3] (power_at s hs) fun _ => ?_
 rcases Bool.eq_false_or_eq_true v.off with ho | ho
 ·have hso : s.off = true := by rw [← hv] at ho; exact ho
  rw [show v.powE = 20 by simp [VM.powE, ho], show v.openE x = 20 by rw [hE, if_pos hso]]
  refine goA ?_
  refine ⟨_, _, Ent.mk' (e' := [(0, .tup [AV.nilPtr, AV.int .i64 20])]) (H' := s.H) [some 0, some 1, some 2, some 3] (by kernel_rfl) ?_ ?_, (), rfl, rfl⟩
  ·exact ⟨AVE.refl _, trivial⟩
  ·exact subC
 ·have hso : ¬ s.off = true := by rw [← hv] at ho; simpa using ho
  rw [if_neg hso] at hE
  rw [show v.powE = 0 by simp [VM.powE, ho]]
  refine goA ?_
  cases hm : mayB x with
  | false =>
    rw [show v.openE x = 1 by rw [hE, hm]; rfl]
    refine AFn.useA [0, 1, 2, 3] (find_bad s x hm) fun _ => ?_
    refine goA ?_
    refine ⟨_, _, Ent.mk' (e' := [(0, .tup [AV.nilPtr, AV.int .i64 1])]) (H' := s.H) [some 0, some 1, some 2, some 3] (by kernel_rfl) ?_ ?_, (), rfl, rfl⟩
    ·exact ⟨AVE.refl _, trivial⟩
    ·exact subC
  | true =>
    cases hf : afind s.fd.now x with
    | none =>
      rw [show v.openE x = 6 by rw [hE, hm, hf]; rfl]
      refine AFn.useA [0, 1, 2, 3] (find_no s x hm hf) fun _ => ?_
      refine goA ?_
      refine ⟨_, _, Ent.mk' (e' := [(0, .tup [AV.nilPtr, AV.int .i64 6])]) (H' := s.H) [some 0, some 1, some 2, some 3] (by kernel_rfl) ?_ ?_, (), rfl, rfl⟩
      ·exact ⟨AVE.refl _, trivial⟩
      ·exact subC
    | some m => exact absurd (by rw [hE, hm, hf]; rfl) h0
include h
theorem open_yes {x : List UInt8} (h0 : v.openE x = 0) : ∃ m b, ffind v.fs m = some (v.file x) ∧ (s.fs.find? fun p => decide (p.1 = m)) = some (m, b, v.file x) ∧ AFn Go.Proofs.Tryz.prog 82 [.ptr 0 0, .str x] s.H (fun _ : Unit => .tup [ptrV b, AV.int .i64 0]) (fun _ => s.H) := by
 have hv := hs.val
 have ho : v.off = false := by
  cases ho : v.off with
  | false => rfl
  | true => simp [VM.openE, ho] at h0
 have hF : v.findE x = 0 := by simpa [VM.openE, ho] using h0
 obtain ⟨hm, m, hf⟩ := findE_zero hF
 obtain ⟨f, h1⟩ := h.led x m hf
 obtain ⟨b, h2⟩ := at_find hs h1
 have ef : v.file x = f := by unfold VM.file; rw [hf]; simp [h1]
 have hf' : afind s.fd.now x = some m := by rw [← hv] at hf; exact hf
 refine ⟨m, b, by rw [ef]; exact h1, by rw [ef]; exact h2, ?_⟩
 refine ACall.fin ?_
 refine ACall.walk (C := cfg 17 4) (cfgOk _ _) [] (fn := Go.Proofs.Tryz.f82) (by kernel_rfl) (by kernel_rfl) rfl (by kernel_rfl) (by kernel_rfl) rfl rfl ?_
 refine goA ?_
 refine AFn.useA [0, 1, 2, 3] (power_at s hs) fun _ => ?_
 rw [show v.powE = 0 by simp [VM.powE, ho]]
 refine goA ?_
 refine AFn.useA [0, 1, 2, 3] (find_yes s x m b f hm hf' h2) fun _ => ?_
 refine goA ?_
 refine ⟨_, _, Ent.mk' (e' := [(0, .tup [ptrV b, AV.int .i64 0])]) (H' := s.H) [some 0, some 1, some 2, some 3] (by kernel_rfl) ?_ ?_, (), rfl, rfl⟩
 ·exact ⟨AVE.refl _, trivial⟩
 ·exact subC
theorem size_s (x : List UInt8) : AFn Go.Proofs.Tryz.prog 75 [.ptr 0 0, .str x] s.H (fun _ : Unit => .tup [AV.int .i64 (v.size x), AV.int .i64 (v.openE x)]) (fun _ => s.H) := by
 refine ACall.fin ?_
 refine ACall.walk (C := cfg 17 4) (cfgOk _ _) [] (fn := Go.Proofs.Tryz.f75) (by kernel_rfl) (by kernel_rfl) rfl (by kernel_rfl) (by kernel_rfl) rfl rfl ?_
 refine goA ?_
 by_cases h0 : v.openE x = 0
 ·obtain ⟨m, b, h1, h2, h3⟩ := open_yes s hs h h0
  rw [h0, show v.size x = ((v.file x).now.length : Int) from if_pos h0]
  refine AFn.useA [0, 1, 2, 3] (h3) fun _ => ?_
  refine goA ?_
  refine AFn.useA [0, 1, 2, 3] (size_at s hs.nd h2) fun _ => ?_
  refine goA ?_
  refine ⟨_, _, Ent.mk' (e' := [(0, .tup [AV.int .i64 ((v.file x).now.length : Int), AV.int .i64 0])]) (H' := s.H) [some 0, some 1, some 2, some 3] (by kernel_rfl) ?_ ?_, (), rfl, rfl⟩
  ·exact ⟨AVE.refl _, trivial⟩
  ·exact subC
 ·rw [show v.size x = 0 from if_neg h0]
  refine AFn.useA [0, 1, 2, 3] (open_no s hs h0) fun _ => ?_
  refine goA ?_
  refine AFn.useA [] (size_nil) fun _ => ?_
  refine goA ?_
  refine ⟨_, _, Ent.mk' (e' := [(0, .tup [AV.int .i64 0, AV.int .i64 (v.openE x)])]) (H' := s.H) [some 0, some 1, some 2, some 3] (by kernel_rfl) ?_ ?_, (), rfl, rfl⟩
  ·exact ⟨AVE.refl _, trivial⟩
  ·exact subC
theorem readAt_s (hB : B ≤ 80000000) (x : List UInt8) (a m : Int) : AFn Go.Proofs.Tryz.prog 76 [.ptr 0 0, .str x, AV.int .i64 a, AV.int .i64 m] s.H (fun _ : Unit => .tup [.iv (.bs (v.read x a m)), AV.int .i64 (v.readE x a m)]) (fun _ => s.H) := by
 refine ACall.fin ?_
 refine ACall.walk (C := cfg 27 4) (cfgOk _ _) [] (fn := Go.Proofs.Tryz.f76) (by kernel_rfl) (by kernel_rfl) rfl (by kernel_rfl) (by kernel_rfl) rfl rfl ?_
 refine goA ?_
 by_cases h0 : v.openE x = 0
 ·obtain ⟨m', b, h1, h2, h3⟩ := open_yes s hs h h0
  rw [show v.readE x a m = (v.file x).readE a m from if_pos h0, show v.read x a m = (v.file x).read a m from if_pos h0]
  refine AFn.useA [0, 1, 2, 3] (h3) fun _ => ?_
  refine goA ?_
  refine AFn.useA [0, 1, 2, 3] (read_at s hs.nd h2 a m (by have := (h.file h1).len; omega)) fun _ => ?_
  refine goA ?_
  refine ⟨_, _, Ent.mk' (e' := [(0, .tup [.iv (.bs ((v.file x).read a m)), AV.int .i64 ((v.file x).readE a m)])]) (H' := s.H) [some 0, some 1, some 2, some 3] (by kernel_rfl) ?_ ?_, (), rfl, rfl⟩
  ·exact ⟨AVE.refl _, trivial⟩
  ·exact subC
 ·rw [show v.readE x a m = v.openE x from if_neg h0, show v.read x a m = [] from if_neg h0]
  refine AFn.useA [0, 1, 2, 3] (open_no s hs h0) fun _ => ?_
  refine goA ?_
  refine ifdA (fun g => ?_) (fun g => ?_) <;> (try dsimp only at g)
  ·refine goA ?_
   refine ⟨_, _, Ent.mk' (e' := [(0, .tup [.iv (.bs []), AV.int .i64 (v.openE x)])]) (H' := s.H) [some 0, some 1, some 2, some 3] (by kernel_rfl) ?_ ?_, (), rfl, rfl⟩
   ·exact ⟨AVE.tupE ⟨AVE.nilBs, AVE.refl _, rfl⟩, trivial⟩
   ·exact subC
  ·exact absurd g h0
omit h
end
end Go.Proofs.YtnkobcokjalmoaaGreatDoor.Ax

namespace Go.Proofs.YtnkobcokjalmoaaGreatDoor.Ax
open Go.RowKit
set_option maxRecDepth 100000
def iF (P : List Int) (i : Nat) : List IV := [.v (.int .i64 (P.getD i 0))]
@[reducible] def iRow (P : List Int) : IV := .sl 1 P.length (iF P)
def pickN (P : List Int) (L : Nat) : Nat := match P with
 | [] => 0
 | p :: _ => p.toNat % (L + 1)
theorem pickN_le' (P : List Int) (L : Nat) {m : Nat} (h : L ≤ m) : pickN P L ≤ m := by
 unfold pickN
 split
 ·exact Nat.zero_le _
 ·rename_i p _
  have h1 : p.toNat % (L + 1) < L + 1 := Nat.mod_lt _ (Nat.succ_pos L)
  omega
@[reducible] def pickH (P : List Int) : AH := ⟨1, [(0, .cells 46 [.iv (iRow P)])]⟩
theorem iF_tail (p : Int) (P : List Int) (i : Nat) : iF (p :: P) (1 + i) = iF P i := by
 unfold iF
 rw [Nat.add_comm, List.getD_cons_succ]
theorem pick_ok (P : List Int) (hP : ∀ p ∈ P, 0 ≤ p) (L : Nat) (hL : L ≤ 1000000000) : AFn Go.Proofs.Tryz.prog 90 [AV.int .i64 L, .ptr 0 0] (pickH P) (fun _ : Unit => AV.int .i64 (pickN P L)) (fun _ => pickH P.tail) := by
 refine ACall.fin ?_
 refine ACall.walk (C := cfgN 17 1) (cfgNOk _ _) [] (fn := Go.Proofs.Tryz.f90) (by kernel_rfl) (by kernel_rfl) rfl (by kernel_rfl) (by kernel_rfl) rfl rfl ?_
 refine goA ?_
 cases P with
 | nil =>
   refine goA ?_
   refine ⟨_, _, Ent.mk' (e' := [(0, AV.int .i64 0)]) (H' := pickH []) [some 0] (by kernel_rfl) ?_ ?_, (), rfl, rfl⟩
   ·exact ⟨AVE.refl _, trivial⟩
   ·exact subC
 | cons p P =>
   have hp := hP p (List.mem_cons_self ..)
   refine goA ?_
   refine ⟨_, _, Ent.mk' (e' := [(0, AV.int .i64 (pickN (p :: P) L))]) (H' := pickH P) [some 0] (by kernel_rfl) ?_ ?_, (), rfl, rfl⟩
   ·refine ⟨AVE.int ?_, trivial⟩
    show (p :: P).getD 0 0 % ((L : Int) + 1) = _
    simp only [pickN, List.getD_cons_zero]
    rw [Int.natCast_emod, Int.toNat_of_nonneg hp]
    rfl
   ·refine ⟨⟨_, rfl, ChE.cells ⟨AVE.of_eq ?_, rfl⟩⟩, trivial⟩
    show AV.iv (IV.sl 1 (((p :: P).length : Int).toNat - Int.toNat 1) fun i => iF (p :: P) (Int.toNat 1 + i)) = AV.iv (iRow P)
    rw [show ((p :: P).length : Int).toNat - Int.toNat 1 = P.length by simp, show (fun i => iF (p :: P) (Int.toNat 1 + i)) = iF P from funext fun i => iF_tail p P i]
theorem neg_ok (p : Int) : AFn Go.Proofs.Tryz.prog 89 [AV.int .i64 p] ⟨0, []⟩ (fun _ : Unit => AV.bool (decide (p < 0))) (fun _ => ⟨0, []⟩) := by
 refine ACall.walk (C := cfg 5 0) (cfgOk _ _) [] (fn := Go.Proofs.Tryz.f89) (by kernel_rfl) (by kernel_rfl) rfl (by kernel_rfl) (by kernel_rfl) rfl rfl ?_
 conv => whnf
 exact ⟨(), rfl, rfl⟩
theorem indexF_ok (P : List Int) (hl : P.length ≤ 9223372036854775807) : AFn Go.Proofs.Tryz.prog 162 [.iv (iRow P), .iv (.v (.func (.func 89) ⟨[]⟩ ⟨[]⟩))] ⟨0, []⟩ (fun y : { y : Int // 0 ≤ y ↔ ∃ p ∈ P, p < 0 } => AV.int .i64 y.1) (fun _ => ⟨0, []⟩) := by
 refine ACall.fin ?_
 refine ACall.walk (C := cfg 19 0) (cfgOk _ _) [] (fn := Go.Proofs.Tryz.f162) (by kernel_rfl) (by kernel_rfl) rfl (by kernel_rfl) (by kernel_rfl) rfl rfl ?_
 refine goA ?_
 refine AWP.loop (X := { i : Nat // i ≤ P.length ∧ ∀ j, j < i → ¬ P.getD j 0 < 0 }) (fun y => [(0, .iv (iRow P)), (1, .iv (.v (.func (.func 89) ⟨[]⟩ ⟨[]⟩))), (7, AV.int .i64 P.length), (8, AV.int .i64 y.1)]) (fun y => ⟨0, []⟩) (fun y => P.length - y.1) (⟨0, Nat.zero_le _, fun j hj => absurd hj (Nat.not_lt_zero _)⟩) ?_ fun y => AWP.go (S := []) (cfgOk _ _) (.of_eq (by kernel_rfl)) ?_
 ·exact Ent.mkA []
 ·obtain ⟨i, hi, hne⟩ := y
  refine goA ?_
  refine ifdA (fun h1 => ?_) (fun h1 => ?_) <;> (try dsimp only at h1)
  ·have hlt : i < P.length := by omega
   refine goA ?_
   refine AFn.useA [] (neg_ok (P.getD i 0)) fun _ => ?_
   refine goA ?_
   by_cases hp : P.getD i 0 < 0
   ·rw [decide_eq_true hp]
    refine goA ?_
    exact ⟨AV.int .i64 i, ⟨0, []⟩, Ent.mk' [] (by kernel_rfl) ⟨AVE.refl _, trivial⟩ trivial, ⟨(i : Int), ⟨fun _ => ⟨P.getD i 0, by simp [List.getD, hlt], hp⟩, fun _ => by omega⟩⟩, rfl, rfl⟩
   ·rw [decide_eq_false hp]
    refine goA ?_
    refine ⟨⟨i + 1, by omega, fun j hj => by
     rcases Nat.lt_succ_iff_lt_or_eq.1 hj with h | h
     ·exact hne j h
     ·subst h; exact hp⟩, Ent.mkA [], ?_⟩
    show P.length - (i + 1) < P.length - i
    omega
  ·refine goA ?_
   refine ⟨AV.int .i64 (-1), ⟨0, []⟩, Ent.mk' [] (by kernel_rfl) ⟨AVE.refl _, trivial⟩ trivial, ⟨-1, ⟨fun h => by omega, fun ⟨p, hm, hp⟩ => ?_⟩⟩, rfl, rfl⟩
   obtain ⟨j, hj, e⟩ := List.getElem_of_mem hm
   exact absurd (by simpa [List.getD, hj, e] using hp) (hne j (by omega))
theorem containsF_ok (P : List Int) (hl : P.length ≤ 9223372036854775807) : AFn Go.Proofs.Tryz.prog 88 [.iv (iRow P), .iv (.v (.func (.func 89) ⟨[]⟩ ⟨[]⟩))] ⟨0, []⟩ (fun _ : Unit => AV.bool (P.any fun p => decide (p < 0))) (fun _ => ⟨0, []⟩) := by
 refine ACall.fin ?_
 refine ACall.walk (C := cfg 9 0) (cfgOk _ _) [] (fn := Go.Proofs.Tryz.f88) (by kernel_rfl) (by kernel_rfl) rfl (by kernel_rfl) (by kernel_rfl) rfl rfl ?_
 refine goA ?_
 refine AFn.useA [] (indexF_ok P hl) fun y => ?_
 obtain ⟨y, hy⟩ := y
 refine goA ?_
 refine ⟨_, _, Ent.mk' (e' := [(0, AV.bool (P.any fun p => decide (p < 0)))]) (H' := ⟨0, []⟩) [] (by kernel_rfl) ?_ ?_, (), rfl, rfl⟩
 rotate_left
 ·trivial
 refine ⟨AVE.bool ?_, trivial⟩
 rw [Bool.eq_iff_iff, decide_eq_true_eq, List.any_eq_true]
 refine hy.trans ⟨fun ⟨p, h1, h2⟩ => ⟨p, h1, decide_eq_true h2⟩, fun ⟨p, h1, h2⟩ => ⟨p, h1, of_decide_eq_true h2⟩⟩
def cs1 (st : List Int × List (Nat × FI)) (x : Nat) : List Int × List (Nat × FI) :=
 (st.1.tail, fset st.2 x (((ffind st.2 x).getD ⟨[], [], []⟩).crash (pickN st.1 (fl ((ffind st.2 x).getD ⟨[], [], []⟩).ds))))
def csN (P : List Int) (fs : List (Nat × FI)) (l : List Nat) : List Int × List (Nat × FI) := l.foldl cs1 (P, fs)
theorem csN_succ (P : List Int) (fs : List (Nat × FI)) {l : List Nat} {i : Nat} (h : i < l.length) : csN P fs (l.take (i + 1)) = cs1 (csN P fs (l.take i)) (l.getD i 0) := by
 unfold csN
 rw [List.take_add_one, List.getElem?_eq_getElem h, List.foldl_append]
 simp [List.getD, h]
theorem csN_neg {P : List Int} (hP : ∀ p ∈ P, 0 ≤ p) (fs : List (Nat × FI)) : ∀ l : List Nat, ∀ p ∈ (csN P fs l).1, 0 ≤ p := by
 have key : ∀ (l : List Nat) (st : List Int × List (Nat × FI)), (∀ p ∈ st.1, 0 ≤ p) → ∀ p ∈ (l.foldl cs1 st).1, 0 ≤ p := by
  intro l
  induction l with
  | nil => intro st h; exact h
  | cons x l ih => intro st h; exact ih (cs1 st x) fun p hp => h p (List.mem_of_mem_tail hp)
 exact fun l => key l (P, fs) hP
def VM.crash1 (P : List Int) (v : VM) : VM := VM.clean { v with fd := v.fd.crash (pickN P v.fd.ds.length) }
def VM.crash (P : List Int) (v : VM) : VM := { v.crash1 P with fs := (csN P.tail (v.crash1 P).fs (v.crash1 P).fd.live).2, off := false, fuse := -1 }
section
variable {n B k : Nat} {v : VM} (h : v.Ok n B k)
include h
theorem VM.Ok.crash0 (K : Int) : VM.Ok n B k { v with fd := v.fd.crash K } :=
 ⟨h.fd.crash K, Nat.zero_le _, h.last, h.nd, h.le, h.files, h.steps, h.fuse, h.quota⟩
theorem VM.Ok.crash1 (P : List Int) : (v.crash1 P).Ok n B k := (h.crash0 _).clean
theorem VM.Ok.csN (P : List Int) : ∀ l : List Nat, VM.Ok n B k { v with fs := (Ax.csN P v.fs l).2 } := by
 have key : ∀ (l : List Nat) (st : List Int × List (Nat × FI)), VM.Ok n B k { v with fs := st.2 } → VM.Ok n B k { v with fs := (l.foldl cs1 st).2 } := by
  intro l
  induction l with
  | nil => intro st h; exact h
  | cons x l ih =>
    intro st h
    refine ih (cs1 st x) ?_
    refine h.fset (x := x) ?_
    cases hf : ffind st.2 x with
    | none => exact (FI.Ok.rest n B (Nat.zero_le _)).crash _
    | some f => exact (h.file hf).crash _
 exact fun l => key l (P, v.fs) h
theorem VM.Ok.crash (P : List Int) : (v.crash P).Ok n B k := by
 have h1 := (h.crash1 P).csN P.tail (v.crash1 P).fd.live
 exact ⟨h1.fd, h1.ds, h1.last, h1.nd, h1.le, h1.files, h1.steps, ⟨by show (-1 : Int) ≤ -1; decide, by show (-1 : Int) ≤ 9223372036854775807; decide⟩, h1.quota⟩
end
structure CrS (v : VM) (P : List Int) where
 i : Nat
 hi : i ≤ (v.crash1 P).fd.live.length
 s : SM
 hs : s.At { v.crash1 P with fs := (csN P.tail (v.crash1 P).fs ((v.crash1 P).fd.live.take i)).2 }
section
variable (s : SM) {n B k : Nat} {v : VM} (hs : s.At v) (h : v.Ok n B k) (hn : n ≤ 490) (hB : B ≤ 80000000)
include hs
include h hn hB
theorem crash_good {P : List Int} (hl : P.length ≤ 9223372036854775807) (hP : P.any (fun p => decide (p < 0)) = false) : AFn Go.Proofs.Tryz.prog 29 [.ptr 0 0, .iv (iRow P)] s.H (fun _ : { s' : SM // s'.At (v.crash P) } => AV.int .i64 0) (fun s' => s'.1.H) := by
 have hP0 : ∀ p ∈ P, 0 ≤ p := fun p hp => by
  have := List.any_eq_false.1 hP p hp
  simp at this
  exact this
 have hv := hs.val
 have hds : s.fd.ds.length ≤ 490 := by have := h.ds; rw [← hv] at this; have : s.fd.ds.length ≤ n := this; omega
 refine ACall.fin ?_
 refine ACall.walk (C := cfgN 59 4) (cfgNOk _ _) sch29 (fn := Go.Proofs.Tryz.f29) (by kernel_rfl) (by kernel_rfl) rfl (by kernel_rfl) (by kernel_rfl) rfl rfl ?_
 refine goA ?_
 refine AFn.useA [0, 1, 2, 3] (fnone_in s) fun _ => ?_
 refine goA ?_
 refine AFn.useA [] (containsF_ok P hl) fun _ => ?_
 rw [hP]
 refine goA ?_
 have h0 := h.crash0 (pickN P v.fd.ds.length : Nat)
 have h1 := h.crash1 P
 have e1 : v.crash1 P = (SM.val { s with fd := s.fd.crash (pickN P s.fd.ds.length : Nat) }).clean := by rw [← hv]; rfl
 have ht : SM.At { s with fd := s.fd.crash (pickN P s.fd.ds.length : Nat) } { v with fd := v.fd.crash (pickN P v.fd.ds.length : Nat) } := by rw [← hv]; exact ⟨rfl, hs.nd⟩
 have hc := clean_at ht
 have hcl := h0.cl (by omega)
 have hin : (s.fd.crash (pickN P s.fd.ds.length : Nat)).In NOk := by have := hcl.fin; rw [← hv] at this; exact this
 have hliv : (v.crash1 P).fd.live = (s.fd.crash (pickN P s.fd.ds.length : Nat)).live := by rw [e1]; rfl
 have hll : (s.fd.crash (pickN P s.fd.ds.length : Nat)).live.length ≤ 1000 := live_len hin
 have hok : ∀ i, VM.Ok n B k { v.crash1 P with fs := (csN P.tail (v.crash1 P).fs ((v.crash1 P).fd.live.take i)).2 } := fun i => h1.csN P.tail _
 have hneg : ∀ i, ∀ p ∈ (csN P.tail (v.crash1 P).fs ((v.crash1 P).fd.live.take i)).1, 0 ≤ p := fun i => csN_neg (fun p hp => hP0 p (List.mem_of_mem_tail hp)) _ _
 repeat' (first | (refine And.intro ?_ ?_ <;> (refine goA ?_)) | (refine AFn.useA [1] (loose_ok s.fd) fun _ => ?_; (refine goA ?_)))
 all_goals
  refine AFn.useA [4] (pick_ok P hP0 s.fd.ds.length (by omega)) fun _ => ?_
  refine goA ?_
  refine AFn.useA [1] (crash_ok s.fd (by omega) (pickN P s.fd.ds.length : Nat)) fun _ => ?_
  refine goA ?_
  refine AFn.useA [0, 1, 2, 3] (clean_ok _ ht hcl) fun _ => ?_
  refine goA ?_
  refine AFn.useA [1] (live_ok (s.fd.crash (pickN P s.fd.ds.length : Nat)) hin (Nat.zero_le _)) fun _ => ?_
  refine goA ?_
  refine AWP.loop (X := CrS v P) (fun y => [(0, .ptr 0 0), (5, .fnc (.func 90) [] [.ptr 4 0]), (34, .iv (.sl 1 (s.fd.crash (pickN P s.fd.ds.length : Nat)).live.length (uF (s.fd.crash (pickN P s.fd.ds.length : Nat)).live.toArray))), (35, AV.int .i64 (s.fd.crash (pickN P s.fd.ds.length : Nat)).live.length), (36, AV.int .i64 y.i)]) (fun y => ⟨5, y.s.H.ch ++ [(4, .cells 46 [.iv (iRow (csN P.tail (v.crash1 P).fs ((v.crash1 P).fd.live.take y.i)).1)])]⟩) (fun y => (v.crash1 P).fd.live.length - y.i) (⟨0, Nat.zero_le _, _, hc⟩) ?_ fun y => AWP.go (S := sch29) (cfgNOk _ _) (.of_eq (by kernel_rfl)) ?_
  ·exact Ent.mkA [some 0, some 1, some 2, some 3, some 4]
  ·obtain ⟨i, hi, s', hs'⟩ := y
   refine goA ?_
   refine ifdA (fun g1 => ?_) (fun g1 => ?_) <;> (try dsimp only at g1)
   ·have hlt : i < (v.crash1 P).fd.live.length := by rw [hliv]; omega
    have hx : (v.crash1 P).fd.live.getD i 0 ∈ (v.crash1 P).fd.live := by simp [List.getD, hlt]
    obtain ⟨f, hf⟩ := Option.isSome_iff_exists.1 ((hok i).alive _ hx)
    obtain ⟨b, hb⟩ := at_find hs' hf
    have hfo := (hok i).file hf
    have hkey : (s.fd.crash (pickN P s.fd.ds.length : Nat)).live.toArray[i]! = (v.crash1 P).fd.live.getD i 0 := by rw [hliv]; simp [List.getD]
    have hnext := csN_succ P.tail (v.crash1 P).fs hlt
    have hput := file_put hs' (hok i).nd hb (f.crash (pickN (csN P.tail (v.crash1 P).fs ((v.crash1 P).fd.live.take i)).1 (fl f.ds)))
    have hput' : (s'.put b (f.crash (pickN (csN P.tail (v.crash1 P).fs ((v.crash1 P).fd.live.take i)).1 (fl f.ds)))).At { v.crash1 P with fs := (csN P.tail (v.crash1 P).fs ((v.crash1 P).fd.live.take (i + 1))).2 } := by
     rw [hnext]
     have hf' : ffind (csN P.tail (v.crash1 P).fs ((v.crash1 P).fd.live.take i)).2 ((v.crash1 P).fd.live.getD i 0) = some f := hf
     unfold cs1
     rw [hf']
     exact hput
    refine goA ?_
    rw [mfind_flM]
    simp -iota only [Int.toNat_natCast]
    have hb' : (s'.fs.find? fun p => decide (p.1 = (s.fd.crash (pickN P s.fd.ds.length : Nat)).live.toArray[i]!)) = some ((v.crash1 P).fd.live.getD i 0, b, f) := by rw [hkey]; exact hb
    rw [hb']
    refine ⟨fun y hy => ?_, fun hy => by cases hy⟩
    cases hy
    refine goA ?_
    refine AFn.useA [0, 1, 2, 3] (loose_at s' hs'.nd hb (by have := hfo.ds; omega) (by have := hfo.sz; omega)) fun _ => ?_
    refine goA ?_
    refine AFn.useA [4] (pick_ok _ (hneg i) (fl f.ds) (by have := hfo.sz; omega)) fun _ => ?_
    refine goA ?_
    refine AFn.useA [0, 1, 2, 3] (crash_at s' hb (pickN (csN P.tail (v.crash1 P).fs ((v.crash1 P).fd.live.take i)).1 (fl f.ds)) (pickN_le' _ _ (by have := hfo.sz; omega)) hfo.vd (by have := hfo.sz; omega) (by have := hfo.ds; omega)) fun _ => ?_
    refine goA ?_
    refine ⟨⟨i + 1, by omega, s'.put b (f.crash (pickN (csN P.tail (v.crash1 P).fs ((v.crash1 P).fd.live.take i)).1 (fl f.ds))), hput'⟩, Ent.mkC [some 0, some 1, some 2, some 3, some 4] ?_, ?_⟩
    ·exact ⟨⟨_, rfl, ChE.refl _⟩, ⟨_, rfl, ChE.refl _⟩, ⟨_, rfl, ChE.refl _⟩, ⟨_, rfl, ChE.refl _⟩, ⟨_, rfl, ChE.of_eq (by rw [hnext]; rfl)⟩, trivial⟩
    ·show (v.crash1 P).fd.live.length - (i + 1) < (v.crash1 P).fd.live.length - i
     omega
   ·have hi' : i = (v.crash1 P).fd.live.length := by rw [hliv] at hi ⊢; omega
    subst hi'
    have hend : SM.At { s' with off := false, fuse := -1 } (v.crash P) := by
     have hv' := hs'.val
     rw [List.take_length] at hv'
     refine ⟨?_, hs'.nd⟩
     have e : SM.val { s' with off := false, fuse := -1 } = { SM.val s' with off := false, fuse := -1 } := rfl
     rw [e, hv']
     rfl
    refine goA ?_
    exact ⟨_, _, Ent.mk' (e' := [(0, AV.int .i64 0)]) (H' := SM.H { s' with off := false, fuse := -1 }) [some 0, some 1, some 2, some 3] (by kernel_rfl) ⟨AVE.refl _, trivial⟩ (by repeat' (first | exact trivial | refine ⟨⟨_, rfl, ChE.refl _⟩, ?_⟩)), ⟨{ s' with off := false, fuse := -1 }, hend⟩, rfl, rfl⟩
end
end Go.Proofs.YtnkobcokjalmoaaGreatDoor.Ax

namespace Go.Proofs.YtnkobcokjalmoaaGreatDoor.Ax
open Go.RowKit
set_option maxRecDepth 100000
theorem AFn.keep {P : Program} {f : FuncId} {args : List AV} {r : AV} {s : SM} {v : VM} (hs : s.At v) (h : AFn P f args s.H (fun _ : Unit => r) fun _ => s.H) : AFn P f args s.H (fun _ : { s' : SM // s'.At v } => r) fun s' => s'.1.H :=
 h.say fun _ => ⟨⟨s, hs⟩, AVE.refl _, rfl⟩
section
variable {n B k : Nat} {v : VM} (h : v.Ok n B k) (hn : n ≤ 490) (hB : B ≤ 80000000) (hk : k ≤ 900000000)
include h hn hB hk
theorem fsCreate (x : List UInt8) : AFn Go.Proofs.Tryz.prog 139 [.ptr 0 0, .str x] (fone v) (fun _ : Unit => AV.int .i64 (v.createE x)) (fun _ => fone (v.create x)) := AFn.val fun s hs => AFn.shut (create_s s hs h hn hB hk x) rfl rfl (fun _ => ⟨by kernel_rfl, by kernel_rfl⟩) (fun _ => (by repeat' first | exact trivial | refine ⟨rfl, ?_⟩)) (fun _ => rfl)
theorem fsSyncDir : AFn Go.Proofs.Tryz.prog 143 [.ptr 0 0] (fone v) (fun _ : Unit => AV.int .i64 v.syncDirE) (fun _ => fone v.syncDir) := AFn.val fun s hs => AFn.shut (syncDir_s s hs h hn hB hk) rfl rfl (fun _ => ⟨by kernel_rfl, by kernel_rfl⟩) (fun _ => (by repeat' first | exact trivial | refine ⟨rfl, ?_⟩)) (fun _ => rfl)
theorem fsAppend (x c : List UInt8) (hc : c.length ≤ 10000000) : AFn Go.Proofs.Tryz.prog 86 [.ptr 0 0, .str x, .iv (.bs c)] (fone v) (fun _ : Unit => AV.int .i64 (v.appendE x c)) (fun _ => fone (v.append x c)) := AFn.val fun s hs => AFn.shut (append_s s hs h hn hB hk x c hc) rfl rfl (fun _ => ⟨by kernel_rfl, by kernel_rfl⟩) (fun _ => (by repeat' first | exact trivial | refine ⟨rfl, ?_⟩)) (fun _ => rfl)
theorem fsSync (x : List UInt8) : AFn Go.Proofs.Tryz.prog 81 [.ptr 0 0, .str x] (fone v) (fun _ : Unit => AV.int .i64 (v.syncE x)) (fun _ => fone (v.sync x)) := AFn.val fun s hs => AFn.shut (sync_s s hs h hn hB hk x) rfl rfl (fun _ => ⟨by kernel_rfl, by kernel_rfl⟩) (fun _ => (by repeat' first | exact trivial | refine ⟨rfl, ?_⟩)) (fun _ => rfl)
omit hk
theorem fsCrashGood {P : List Int} (hl : P.length ≤ 9223372036854775807) (hP : P.any (fun p => decide (p < 0)) = false) : AFn Go.Proofs.Tryz.prog 29 [.ptr 0 0, .iv (iRow P)] (fone v) (fun _ : Unit => AV.int .i64 0) (fun _ => fone (v.crash P)) := AFn.val fun s hs => AFn.shut (crash_good s hs h hn hB hl hP) rfl rfl (fun _ => ⟨by kernel_rfl, by kernel_rfl⟩) (fun _ => (by repeat' first | exact trivial | refine ⟨rfl, ?_⟩)) (fun _ => rfl)
omit hB
omit hn
include hB
theorem fsReadAt (x : List UInt8) (a m : Int) : AFn Go.Proofs.Tryz.prog 76 [.ptr 0 0, .str x, AV.int .i64 a, AV.int .i64 m] (fone v) (fun _ : Unit => .tup [.iv (.bs (v.read x a m)), AV.int .i64 (v.readE x a m)]) (fun _ => fone v) := AFn.val fun s hs => AFn.shut (AFn.keep hs (readAt_s s hs h hB x a m)) rfl rfl (fun _ => ⟨by kernel_rfl, by kernel_rfl⟩) (fun _ => (by repeat' first | exact trivial | refine ⟨rfl, ?_⟩)) (fun _ => rfl)
omit hB
theorem fsSize (x : List UInt8) : AFn Go.Proofs.Tryz.prog 75 [.ptr 0 0, .str x] (fone v) (fun _ : Unit => .tup [AV.int .i64 (v.size x), AV.int .i64 (v.openE x)]) (fun _ => fone v) := AFn.val fun s hs => AFn.shut (AFn.keep hs (size_s s hs h x)) rfl rfl (fun _ => ⟨by kernel_rfl, by kernel_rfl⟩) (fun _ => (by repeat' first | exact trivial | refine ⟨rfl, ?_⟩)) (fun _ => rfl)
omit h
end
end Go.Proofs.YtnkobcokjalmoaaGreatDoor.Ax
