/-
  Chapter 13: the law's walk.
-/
import Derived.Test.YtnkobcokjalmoaaGreatDoorQx
import Derived.Test.YtnkobcokjalmoaaGreatDoorQc
import Derived.Test.YtnkobcokjalmoaaGreatDoorQu
import Derived.Test.YtnkobcokjalmoaaGreatDoorQy
import Derived.LaidHandle
import Derived.LaidSub
import Derived.LaidLaws
import Derived.OpenShut
import Derived.FnData
namespace Go.Proofs.YtnkobcokjalmoaaGreatDoor.Ax
open Go.RowKit
set_option maxRecDepth 100000
noncomputable def cfgWs (N b : Nat) : Cfg := { P := Go.Proofs.Tryz.prog, T := tt, cuts := [3010], wr := false, N := N, pure := [103, 102], base := b, frz := fun op => match op with | .makeFunc .. => true | .convert .. => true | .makeSlice .. => true | .buildSlice t .. => Nat.beq t 46 | _ => false }
theorem cfgWsOk (N b : Nat) : (cfgWs N b).Ok := ⟨ttOk, ttBytes, by kernel_rfl⟩
noncomputable def cfgWt (N b : Nat) : Cfg := { P := Go.Proofs.Tryz.prog, T := tt, wr := false, N := N, pure := [103, 102], base := b, frz := fun op => match op with | .makeFunc .. => true | .convert .. => true | .makeSlice .. => true | .buildSlice t .. => Nat.beq t 46 | _ => false }
theorem cfgWtOk (N b : Nat) : (cfgWt N b).Ok := ⟨ttOk, ttBytes, by kernel_rfl⟩
def wxS (vs : Nat → VM) : Nat → AH
 | 0 => rlC ⟨4096, [], 1, 0⟩ [] (-1) (VM.new 1073741824)
 | 5 => rlO wkG2 wkE2 (-1) (vs 5) (segA 2 [wxR 4] 0)
 | i => rlO wkG1 [.add 1] (-1) (vs i) (segA 1 (wxL i) 0)
set_option maxHeartbeats 4000000 in
theorem wakes13_ok : AFn Go.Proofs.Tryz.prog 33 [] ⟨0, []⟩ (fun _ : Unit => AV.bool true) (fun _ => ⟨0, []⟩) := by
 obtain ⟨vs, b1, b2, b4, b5, b6⟩ := wk_chain
 refine ACall.fin ?_
 refine ACall.walk (C := cfgWs 110 0) (cfgWsOk _ _) sch33 (fn := Go.Proofs.Tryz.f33) (by kernel_rfl) (by kernel_rfl) rfl (by kernel_rfl) (by kernel_rfl) rfl rfl ?_
 refine goA ?_
 refine AFn.useA [] (new_fs 1073741824 (by decide)) fun _ => ?_
 refine goA ?_
 refine AFn.useA [0] (rollNew_ok 4096 1 (by decide) (VM.new 1073741824)) fun _ => ?_
 refine goA ?_
 refine AWP.loop (X := { i : Nat // i ≤ 5 }) (fun x => [(3, .ptr 1 0), (5, .ptr 3 0), (26, AV.int .i64 x.1)]) (fun x => wxS vs x.1) (fun x => 5 - x.1) (⟨0, Nat.zero_le _⟩) ?_ fun x => AWP.go (S := sch33) (cfgWsOk _ _) (.of_eq (by kernel_rfl)) ?_
 ·refine (HEnt.ent (HEnt.addNil 128 5 (edF []))).trans ?_
  exact Ent.mk' (H' := rlC ⟨4096, [], 1, 0⟩ [] (-1) (VM.new 1073741824)) [some 0, some 1, some 2, some 3, some 4] (by kernel_rfl) ⟨AVE.refl _, AVE.refl _, AVE.refl _, trivial⟩ ⟨⟨_, rfl, ChE.refl _⟩, ⟨_, rfl, ChE.refl _⟩, ⟨_, rfl, ChE.refl _⟩, ⟨_, rfl, ChE.cells (by exact ⟨AVE.nil _ _, AVE.refl _, rfl⟩)⟩, ⟨_, rfl, ChE.refl _⟩, trivial⟩
 ·obtain ⟨i, hi⟩ := x
  dsimp only
  have hc : i = 0 ∨ (1 ≤ i ∧ i ≤ 3) ∨ i = 4 ∨ i = 5 := by omega
  rcases hc with rfl | hc | rfl | rfl
  ·refine goA ?_
   apply AWP.aheadX (X := Unit) (C := cfgWt 110 0) (fun _ => [(3, .ptr 1 0), (5, .ptr 3 0), (6, AV.int .i64 0), (26, AV.int .i64 0), (7, .ptr 6 0), (8, AV.int .i64 0)]) (fun _ => ⟨7, [(0, .sem (fsV (vs (0 + 1)))), (1, rollP wkG1 2 (.ptr 5 0)), (2, sealsP wkG1), (3, earP 4 [.add 1] (-1)), (4, hdP [.add 1]), (5, segP (segA 1 (wxL (0 + 1)) 0)), (6, boxL 1 (16))]⟩)
   ·intro key
    repeat' (refine And.intro ?_ ?_ <;> (refine goA ?_))
    all_goals
     refine ACall.argsE [.ptr 1 0, earA, recA (wxR 0)] ⟨AVE.refl _, AVE.refl _, AVE.aggE ⟨AVE.int rfl, AVE.refl _, AVE.refl _, AVE.refl _, AVE.refl _, AVE.refl _, rfl⟩, rfl⟩ ?_
     refine AFn.useA [0, 1, 2, 3, 4] (b1) fun _ => ?_
     refine goA ?_
     refine ⟨(AWP.of_ent (C := cfgWt 110 0) ?_ (key ())).run⟩
     first | (change Ent _ _ _ ⟨_, (0, _) :: _⟩ _ _; exact Ent.mk' [some 0, some 1, some 2, some 3, some 6, some 5, some 7] (by kernel_rfl) ⟨AVE.refl _, AVE.refl _, AVE.refl _, AVE.refl _, AVE.refl _, AVE.refl _, trivial⟩ subC) | exact Ent.mk' [some 0, some 1, some 2, some 3, some 7, some 6, some 5] (by kernel_rfl) ⟨AVE.refl _, AVE.refl _, AVE.refl _, AVE.refl _, AVE.refl _, AVE.refl _, trivial⟩ subC
   ·intro _
    refine AWP.go (S := sch33) (cfgWtOk _ _) (.of_eq (by kernel_rfl)) ?_
    refine goA ?_
    refine AWP.go (S := []) (cfgWsOk _ _) (.of_eq (by kernel_rfl)) ?_
    refine goA ?_
    refine ⟨⟨1, by decide⟩, ?_, (by decide : 5 - 1 < 5 - 0)⟩
    show Ent _ _ _ _ _ (rlO wkG1 [.add 1] (-1) (vs 1) (segA 1 (wxL 1) 0))
    exact Ent.mkA [some 0, some 1, some 2, some 3, some 4, some 5]
  ·have e : wxS vs i = rlO wkG1 [.add 1] (-1) (vs i) (segA 1 (wxL i) 0) := by
    have : i = 1 ∨ i = 2 ∨ i = 3 := by omega
    rcases this with rfl | rfl | rfl <;> rfl
   have bi := b2 i hc.1 hc.2
   rw [e]
   refine goA ?_
   refine ifdA (fun h0 => ?_) (fun h0 => ?_) <;> (try dsimp only at h0)
   rotate_left
   ·exfalso; omega
   refine goA ?_
   apply AWP.aheadX (X := Unit) (C := cfgWt 110 0) (fun _ => [(3, .ptr 1 0), (5, .ptr 3 0), (6, AV.int .i64 i), (26, AV.int .i64 i), (7, .ptr 6 0), (8, AV.int .i64 0)]) (fun _ => ⟨7, [(0, .sem (fsV (vs (i + 1)))), (1, rollP wkG1 2 (.ptr 5 0)), (2, sealsP wkG1), (3, earP 4 [.add 1] (-1)), (4, hdP [.add 1]), (5, segP (segA 1 (wxL (i + 1)) 0)), (6, boxL 1 (16 + 1000 * i))]⟩)
   ·intro key
    repeat' (refine And.intro ?_ ?_ <;> (refine goA ?_))
    all_goals
     refine ACall.argsE [.ptr 1 0, earA, recA (wxR i)] ⟨AVE.refl _, AVE.refl _, AVE.aggE ⟨AVE.int rfl, AVE.refl _, AVE.refl _, AVE.refl _, AVE.refl _, AVE.refl _, rfl⟩, rfl⟩ ?_
     refine AFn.useA [0, 1, 2, 3, 4, 5] (bi) fun _ => ?_
     refine goA ?_
     refine ⟨(AWP.of_ent (C := cfgWt 110 0) ?_ (key ())).run⟩
     exact Ent.mk' [some 0, some 1, some 2, some 3, some 4, some 5, some 6] (by kernel_rfl) ⟨AVE.refl _, AVE.refl _, AVE.refl _, AVE.refl _, AVE.refl _, AVE.refl _, trivial⟩ subC
   ·intro _
    refine AWP.go (S := sch33) (cfgWtOk _ _) (.of_eq (by kernel_rfl)) ?_
    refine goA ?_
    refine ifdA (fun q => ?_) (fun q => ?_) <;> (try dsimp only at q)
    ·have : i = 3 := by omega
     subst this
     refine goA ?_
     refine AFn.useA [4] (kinds_ok [.add 1] (by decide) (fun e he => by rw [List.mem_singleton.1 he]; exact ⟨.inl rfl, by decide, by decide⟩)) fun _ => ?_
     refine goA ?_
     refine ACall.argsE [.row 7 1 0 1, .iv (iRow (kindsOf [.add 1]))] ⟨AVE.refl _, AVE.sl fun j hj => (by have : j = 0 := Nat.lt_one_iff.1 hj; subst this; exact IVEs.refl _), rfl⟩ ?_
     refine AFn.useA [7] (eqInts_ok (kindsOf [.add 1]) (by decide)) fun _ => ?_
     refine goA ?_
     refine AWP.go (S := []) (cfgWsOk _ _) (.of_eq (by kernel_rfl)) ?_
     refine goA ?_
     refine ⟨⟨4, by decide⟩, ?_, (by decide : 5 - 4 < 5 - 3)⟩
     show Ent _ _ _ _ _ (rlO wkG1 [.add 1] (-1) (vs 4) (segA 1 (wxL 4) 0))
     exact Ent.mkA [some 0, some 1, some 2, some 3, some 4, some 5]
    ·refine goA ?_
     refine ifdA (fun q2 => ?_) (fun q2 => ?_) <;> (try dsimp only at q2)
     ·exfalso; omega
     refine goA ?_
     refine AWP.go (S := []) (cfgWsOk _ _) (.of_eq (by kernel_rfl)) ?_
     refine goA ?_
     refine ⟨⟨i + 1, by omega⟩, ?_, by show 5 - (i + 1) < 5 - i; omega⟩
     have e2 : wxS vs (i + 1) = rlO wkG1 [.add 1] (-1) (vs (i + 1)) (segA 1 (wxL (i + 1)) 0) := by
      have : i = 1 ∨ i = 2 := by omega
      rcases this with rfl | rfl <;> rfl
     rw [e2]
     exact Ent.mkA [some 0, some 1, some 2, some 3, some 4, some 5]
  ·refine goA ?_
   apply AWP.aheadX (X := Unit) (C := cfgWt 110 0) (fun _ => [(3, .ptr 1 0), (5, .ptr 3 0), (6, AV.int .i64 4), (26, AV.int .i64 4), (7, .ptr 6 0), (8, AV.int .i64 0)]) (fun _ => ⟨7, [(0, .sem (fsV (vs 5))), (1, rollP wkG2 2 (.ptr 5 0)), (2, sealsP wkG2), (3, earP 4 wkE2 (-1)), (4, hdP wkE2), (5, segP (segA 2 [wxR 4] 0)), (6, boxL 2 16)]⟩)
   ·intro key
    repeat' (refine And.intro ?_ ?_ <;> (refine goA ?_))
    all_goals
     refine ACall.argsE [.ptr 1 0, earA, recA (wxR 4)] ⟨AVE.refl _, AVE.refl _, AVE.aggE ⟨AVE.int rfl, AVE.refl _, AVE.refl _, AVE.refl _, AVE.refl _, AVE.refl _, rfl⟩, rfl⟩ ?_
     refine AFn.useA [0, 1, 2, 3, 4, 5] (b4) fun _ => ?_
     refine goA ?_
     refine ⟨(AWP.of_ent (C := cfgWt 110 0) ?_ (key ())).run⟩
     first | (change Ent _ _ _ ⟨_, (0, _) :: _⟩ _ _; exact Ent.mk' [some 0, some 1, some 6, some 3, some 8, some 7, some 9] (by kernel_rfl) ⟨AVE.refl _, AVE.refl _, AVE.refl _, AVE.refl _, AVE.refl _, AVE.refl _, trivial⟩ subC) | exact Ent.mk' [some 0, some 1, some 7, some 3, some 9, some 8, some 6] (by kernel_rfl) ⟨AVE.refl _, AVE.refl _, AVE.refl _, AVE.refl _, AVE.refl _, AVE.refl _, trivial⟩ subC
   ·intro _
    refine AWP.go (S := sch33) (cfgWtOk _ _) (.of_eq (by kernel_rfl)) ?_
    refine goA ?_
    refine AWP.go (S := []) (cfgWsOk _ _) (.of_eq (by kernel_rfl)) ?_
    refine goA ?_
    refine ⟨⟨5, by decide⟩, ?_, (by decide : 5 - 5 < 5 - 4)⟩
    show Ent _ _ _ _ _ (rlO wkG2 wkE2 (-1) (vs 5) (segA 2 [wxR 4] 0))
    exact Ent.mkA [some 0, some 1, some 2, some 3, some 4, some 5]
  ·refine goA ?_
   refine AFn.useA [0, 1, 2, 3, 4, 5] (b5) fun _ => ?_
   refine goA ?_
   refine ACall.argsE [.ptr 1 0, earA, recA wxD] ⟨AVE.refl _, AVE.refl _, AVE.aggE ⟨AVE.refl _, AVE.refl _, AVE.refl _, AVE.nilBs, AVE.refl _, AVE.refl _, rfl⟩, rfl⟩ ?_
   refine AFn.useA [0, 1, 6, 3, 7] (b6) fun _ => ?_
   refine goA ?_
   refine AFn.useA [10] (kinds_ok wkE4 (by decide) (fun e he => by
    unfold wkE4 at he
    simp only [List.mem_cons, List.not_mem_nil, or_false] at he
    rcases he with rfl | rfl | rfl | rfl | rfl
    ·exact ⟨.inl rfl, by decide, by decide⟩
    ·exact ⟨.inr rfl, by decide, by decide⟩
    ·exact ⟨.inl rfl, by decide, by decide⟩
    ·exact ⟨.inr rfl, by decide, by decide⟩
    ·exact ⟨.inl rfl, by decide, by decide⟩)) fun _ => ?_
   refine goA ?_
   refine ACall.argsE [.row 12 1 0 5, .iv (iRow (kindsOf wkE4))] ⟨AVE.refl _, AVE.sl fun j hj => ?_, rfl⟩ ?_
   ·have : j = 0 ∨ j = 1 ∨ j = 2 ∨ j = 3 ∨ j = 4 := by omega
    rcases this with rfl | rfl | rfl | rfl | rfl <;> exact IVEs.refl _
   refine AFn.useA [12] (eqInts_ok (kindsOf wkE4) (by decide)) fun _ => ?_
   refine goA ?_
   refine ⟨_, _, Ent.mk' (e' := [(0, AV.bool true)]) (H' := ⟨0, []⟩) [] (by kernel_rfl) ?_ ?_, (), rfl, rfl⟩
   ·exact ⟨AVE.bool (decide_eq_true (show ((wxL 4).length : Int) = 4 by rw [wxL_len]; rfl)), trivial⟩
   ·trivial
end Go.Proofs.YtnkobcokjalmoaaGreatDoor.Ax

namespace Go.Proofs.YtnkobcokjalmoaaGreatDoor.Ax
open Go.RowKit
set_option maxRecDepth 100000
noncomputable def cfgLc (N b : Nat) : Cfg := { P := Go.Proofs.Tryz.prog, T := tt, wr := false, N := N, pure := [127, 126], base := b, frz := fun op => match op with | .buildSlice .. => true | _ => false }
theorem cfgLcOk (N b : Nat) : (cfgLc N b).Ok := ⟨ttOk, ttBytes, by kernel_rfl⟩
theorem nan32_ok (x : Nat) : AFn Go.Proofs.Tryz.prog 188 [AV.int .u32 x] ⟨0, []⟩ (fun _ : Unit => AV.bool false) (fun _ => ⟨0, []⟩) := by
 refine ACall.fin ?_
 refine ACall.walk (C := cfg 6 0) (cfgOk _ _) [] (fn := Go.Proofs.Tryz.f188) (by kernel_rfl) (by kernel_rfl) rfl (by kernel_rfl) (by kernel_rfl) rfl rfl ?_
 refine goA ?_
 rw [decide_eq_false (fun h => h rfl)]
 refine ⟨_, _, Ent.mk' (e' := [(0, AV.bool false)]) (H' := ⟨0, []⟩) [] (by kernel_rfl) ?_ ?_, (), rfl, rfl⟩
 ·exact ⟨AVE.refl _, trivial⟩
 ·trivial
def cmpN (x y : Nat) : Int := if x < y then -1 else if y < x then 1 else 0
theorem cmpU_ok (x y : Nat) : AFn Go.Proofs.Tryz.prog 127 [AV.int .u32 x, AV.int .u32 y] ⟨0, []⟩ (fun _ : Unit => AV.int .i64 (cmpN x y)) (fun _ => ⟨0, []⟩) := by
 refine ACall.fin ?_
 refine ACall.walk (C := cfg 20 0) (cfgOk _ _) [] (fn := Go.Proofs.Tryz.f127) (by kernel_rfl) (by kernel_rfl) rfl (by kernel_rfl) (by kernel_rfl) rfl rfl ?_
 refine goA ?_
 refine AFn.useA [] (nan32_ok x) fun _ => ?_
 refine goA ?_
 refine AFn.useA [] (nan32_ok y) fun _ => ?_
 refine goA ?_
 refine ifdA (fun h => ?_) (fun h => ?_) <;> (try dsimp only at h)
 ·refine goA ?_
  refine ⟨_, _, Ent.mk' (e' := [(0, AV.int .i64 (cmpN x y))]) (H' := ⟨0, []⟩) [] (by kernel_rfl) ?_ ?_, (), rfl, rfl⟩
  ·exact ⟨AVE.int (by unfold cmpN; rw [if_pos (by omega)]), trivial⟩
  ·trivial
 ·refine goA ?_
  refine ifdA (fun q => ?_) (fun q => ?_) <;> (try dsimp only at q)
  ·refine goA ?_
   refine ⟨_, _, Ent.mk' (e' := [(0, AV.int .i64 (cmpN x y))]) (H' := ⟨0, []⟩) [] (by kernel_rfl) ?_ ?_, (), rfl, rfl⟩
   ·exact ⟨AVE.int (by unfold cmpN; rw [if_neg (by omega), if_pos (by omega)]), trivial⟩
   ·trivial
  ·refine goA ?_
   refine ⟨_, _, Ent.mk' (e' := [(0, AV.int .i64 (cmpN x y))]) (H' := ⟨0, []⟩) [] (by kernel_rfl) ?_ ?_, (), rfl, rfl⟩
   ·exact ⟨AVE.int (by unfold cmpN; rw [if_neg (by omega), if_neg (by omega)]), trivial⟩
   ·trivial
def orN (a b : Int) : Int := if a ≠ 0 then a else b
theorem cmpOr_ok (a b : Int) : AFn Go.Proofs.Tryz.prog 126 [.iv (iRow [a, b])] ⟨0, []⟩ (fun _ : Unit => AV.int .i64 (orN a b)) (fun _ => ⟨0, []⟩) := by
 refine ACall.fin ?_
 refine ACall.walk (C := cfg 18 0) (cfgOk _ _) [] (fn := Go.Proofs.Tryz.f126) (by kernel_rfl) (by kernel_rfl) rfl (by kernel_rfl) (by kernel_rfl) rfl rfl ?_
 refine goA ?_
 refine AWP.loop (X := { i : Nat // i = 0 ∨ i = 1 ∧ a = 0 ∨ i = 2 ∧ a = 0 ∧ b = 0 }) (fun x => [(3, AV.int .i64 0), (6, .iv (iRow [a, b])), (7, AV.int .i64 2), (8, AV.int .i64 x.1)]) (fun x => ⟨0, []⟩) (fun x => 2 - x.1) (⟨0, by omega⟩) ?_ fun x => AWP.go (S := []) (cfgOk _ _) (.of_eq (by kernel_rfl)) ?_
 ·exact Ent.mkA []
 ·obtain ⟨i, hi⟩ := x
  dsimp only
  rcases hi with rfl | ⟨rfl, ha⟩ | ⟨rfl, ha, hb⟩
  ·refine goA ?_
   refine ifdA (fun q => ?_) (fun q => ?_) <;> (try dsimp only at q)
   ·refine goA ?_
    refine ⟨_, _, Ent.mk' (e' := [(0, AV.int .i64 (orN a b))]) (H' := ⟨0, []⟩) [] (by kernel_rfl) ?_ ?_, (), rfl, rfl⟩
    ·exact ⟨AVE.int (by show a = if a ≠ 0 then a else b; rw [if_pos (show a ≠ 0 from q)]), trivial⟩
    ·trivial
   ·refine goA ?_
    exact ⟨⟨1, .inr (.inl ⟨rfl, q⟩)⟩, Ent.mkA [], (by decide : 2 - 1 < 2 - 0)⟩
  ·refine goA ?_
   refine ifdA (fun q => ?_) (fun q => ?_) <;> (try dsimp only at q)
   ·refine goA ?_
    refine ⟨_, _, Ent.mk' (e' := [(0, AV.int .i64 (orN a b))]) (H' := ⟨0, []⟩) [] (by kernel_rfl) ?_ ?_, (), rfl, rfl⟩
    ·exact ⟨AVE.int (by show b = if a ≠ 0 then a else b; rw [if_neg (fun h => h ha)]), trivial⟩
    ·trivial
   ·refine goA ?_
    exact ⟨⟨2, .inr (.inr ⟨rfl, ha, q⟩)⟩, Ent.mkA [], (by decide : 2 - 2 < 2 - 1)⟩
  ·refine goA ?_
   refine ⟨_, _, Ent.mk' (e' := [(0, AV.int .i64 (orN a b))]) (H' := ⟨0, []⟩) [] (by kernel_rfl) ?_ ?_, (), rfl, rfl⟩
   ·exact ⟨AVE.int (by unfold orN; rw [if_neg (fun h => h ha), hb]), trivial⟩
   ·trivial
theorem locLt_ok {p q : Nat × Nat} (h : LocLt p q) : AFn Go.Proofs.Tryz.prog 63 [locA p.1 p.2, locA q.1 q.2] ⟨0, []⟩ (fun _ : Unit => AV.int .i64 (-1)) (fun _ => ⟨0, []⟩) := by
 have hor : orN (cmpN p.1 q.1) (cmpN p.2 q.2) = -1 := by
  rcases h with h | ⟨h1, h2⟩
  ·have c1 : cmpN p.1 q.1 = -1 := if_pos h
   rw [c1]
   rfl
  ·have c1 : cmpN p.1 q.1 = 0 := by
    unfold cmpN
    rw [if_neg (by omega), if_neg (by omega)]
   have c2 : cmpN p.2 q.2 = -1 := if_pos h2
   rw [c1, c2]
   rfl
 have hOr := cmpOr_ok (cmpN p.1 q.1) (cmpN p.2 q.2)
 rw [hor] at hOr
 refine ACall.fin ?_
 refine ACall.walk (C := cfgLc 17 0) (cfgLcOk _ _) sch63 (fn := Go.Proofs.Tryz.f63) (by kernel_rfl) (by kernel_rfl) rfl (by kernel_rfl) (by kernel_rfl) rfl rfl ?_
 refine goA ?_
 refine AFn.useA [] (cmpU_ok p.1 q.1) fun _ => ?_
 refine goA ?_
 refine AFn.useA [] (cmpU_ok p.2 q.2) fun _ => ?_
 refine goA ?_
 refine ACall.argsE [.iv (iRow [cmpN p.1 q.1, cmpN p.2 q.2])] ⟨AVE.sl fun i hi => ?_, rfl⟩ ?_
 ·have : i = 0 ∨ i = 1 := by omega
  rcases this with rfl | rfl
  ·exact IVEs.refl _
  ·exact IVEs.refl _
 refine AFn.useA [] (hOr) fun _ => ?_
 refine goA ?_
 refine ⟨_, _, Ent.mk' (e' := [(0, AV.int .i64 (-1))]) (H' := ⟨0, []⟩) [] (by kernel_rfl) ?_ ?_, (), rfl, rfl⟩
 ·exact ⟨AVE.refl _, trivial⟩
 ·trivial
theorem cloneSeals_ok (l : List Sl) (hl : l.length ≤ 1000) : AFn Go.Proofs.Tryz.prog 100 [.row 0 5 0 l.length] ⟨1, [(0, .rowc 43 5 l.length (sealF l))]⟩ (fun _ : Unit => .row 1 5 0 l.length) (fun _ => ⟨2, [(0, .rowc 43 5 l.length (sealF l)), (1, .rowc 43 5 l.length (sealF l))]⟩) := by
 refine ACall.fin ?_
 refine ACall.walk (C := cfg 8 1) (cfgOk _ _) [] (fn := Go.Proofs.Tryz.f100) (by kernel_rfl) (by kernel_rfl) rfl (by kernel_rfl) (by kernel_rfl) rfl rfl ?_
 rcases l with _ | ⟨a, l⟩
 ·refine goA ?_
  refine And.intro ?_ ?_ <;> (refine goA ?_)
  ·exact ⟨_, _, (HEnt.ent (HEnt.addNil 43 5 (sealF []))).trans (Ent.mk' (e' := [(0, .row 1 5 0 0)]) (H' := ⟨2, [(0, .rowc 43 5 0 (sealF [])), (1, .rowc 43 5 0 (sealF []))]⟩) [some 0, some 1] (by kernel_rfl) ⟨AVE.nil _ _, trivial⟩ subC), (), rfl, rfl⟩
  ·refine ⟨_, _, Ent.mk' (e' := [(0, .row 1 5 0 0)]) (H' := ⟨2, [(0, .rowc 43 5 0 (sealF [])), (1, .rowc 43 5 0 (sealF []))]⟩) [some 0, some 2] (by kernel_rfl) ⟨AVE.len rfl, trivial⟩ ⟨⟨_, rfl, ChE.refl _⟩, ⟨_, rfl, ChE.row (Nat.zero_le _) fun j hj => absurd hj (Nat.not_lt_zero j)⟩, trivial⟩, (), rfl, rfl⟩
 ·refine goA ?_
  refine ⟨_, _, Ent.mk' (e' := [(0, .row 1 5 0 (a :: l).length)]) (H' := ⟨2, [(0, .rowc 43 5 (a :: l).length (sealF (a :: l))), (1, .rowc 43 5 (a :: l).length (sealF (a :: l)))]⟩) [some 0, some 2] (by kernel_rfl) ⟨AVE.len (Nat.zero_add _), trivial⟩ ⟨⟨_, rfl, ChE.refl _⟩, ⟨_, rfl, ChE.row (Nat.le_of_eq (Nat.zero_add _).symm) fun j hj => ?_⟩, trivial⟩, (), rfl, rfl⟩
  rw [if_neg (Nat.not_lt_zero j)]
  rfl
section
variable (g : RG) (hd : List Ed) (left : Int) {v : VM} {s : SG}
theorem sealedO_fn (hg : g.sealed.length ≤ 1000) : AFn Go.Proofs.Tryz.prog 55 [.ptr 1 0] (rlO g hd left v s) (fun _ : Unit => .row 6 5 0 g.sealed.length) (fun _ => ⟨7, [(0, .sem (fsV v)), (1, rollP g 2 (.ptr 5 0)), (2, sealsP g), (3, earP 4 hd left), (4, hdP hd), (5, segP s), (6, sealsP g)]⟩) := by
 refine ACall.fin ?_
 refine ACall.walk (C := cfg 10 6) (cfgOk _ _) [] (fn := Go.Proofs.Tryz.f55) (by kernel_rfl) (by kernel_rfl) rfl (by kernel_rfl) (by kernel_rfl) rfl rfl ?_
 refine goA ?_
 refine AFn.useA [0, 1, 2, 3, 4, 5] (noneO_ok g hd left v s) fun _ => ?_
 refine goA ?_
 refine AFn.useA [2] (cloneSeals_ok g.sealed hg) fun _ => ?_
 refine goA ?_
 refine ⟨_, _, Ent.mk' (e' := [(0, .row 6 5 0 g.sealed.length)]) (H' := ⟨7, [(0, .sem (fsV v)), (1, rollP g 2 (.ptr 5 0)), (2, sealsP g), (3, earP 4 hd left), (4, hdP hd), (5, segP s), (6, sealsP g)]⟩) [some 0, some 1, some 2, some 3, some 4, some 5, some 6] (by kernel_rfl) ⟨AVE.refl _, trivial⟩ subC, (), rfl, rfl⟩
theorem sealedC_fn (hg : g.sealed.length ≤ 1000) : AFn Go.Proofs.Tryz.prog 55 [.ptr 1 0] (rlC g hd left v) (fun _ : Unit => .row 5 5 0 g.sealed.length) (fun _ => ⟨6, [(0, .sem (fsV v)), (1, rollP g 2 AV.nilPtr), (2, sealsP g), (3, earP 4 hd left), (4, hdP hd), (5, sealsP g)]⟩) := by
 refine ACall.fin ?_
 refine ACall.walk (C := cfg 10 5) (cfgOk _ _) [] (fn := Go.Proofs.Tryz.f55) (by kernel_rfl) (by kernel_rfl) rfl (by kernel_rfl) (by kernel_rfl) rfl rfl ?_
 refine goA ?_
 refine AFn.useA [0, 1, 2, 3, 4] (noneC_ok g hd left v) fun _ => ?_
 refine goA ?_
 refine AFn.useA [2] (cloneSeals_ok g.sealed hg) fun _ => ?_
 refine goA ?_
 refine ⟨_, _, Ent.mk' (e' := [(0, .row 5 5 0 g.sealed.length)]) (H' := ⟨6, [(0, .sem (fsV v)), (1, rollP g 2 AV.nilPtr), (2, sealsP g), (3, earP 4 hd left), (4, hdP hd), (5, sealsP g)]⟩) [some 0, some 1, some 2, some 3, some 4, some 5] (by kernel_rfl) ⟨AVE.refl _, trivial⟩ subC, (), rfl, rfl⟩
theorem openC_fn : AFn Go.Proofs.Tryz.prog 53 [.ptr 1 0] (rlC g hd left v) (fun _ : Unit => .tup [slA ⟨0, 0, 0, 0, 0⟩, AV.bool false]) (fun _ => rlC g hd left v) := by
 refine ACall.fin ?_
 refine ACall.walk (C := cfg 19 5) (cfgOk _ _) [] (fn := Go.Proofs.Tryz.f53) (by kernel_rfl) (by kernel_rfl) rfl (by kernel_rfl) (by kernel_rfl) rfl rfl ?_
 refine goA ?_
 refine AFn.useA [0, 1, 2, 3, 4] (noneC_ok g hd left v) fun _ => ?_
 refine goA ?_
 refine ⟨_, _, Ent.mk' (e' := [(0, .tup [slA ⟨0, 0, 0, 0, 0⟩, AV.bool false])]) (H' := rlC g hd left v) [some 0, some 1, some 2, some 3, some 4] (by kernel_rfl) ?_ ?_, (), rfl, rfl⟩
 ·exact ⟨AVE.refl _, trivial⟩
 ·exact subC
theorem nextC_fn : AFn Go.Proofs.Tryz.prog 56 [.ptr 1 0] (rlC g hd left v) (fun _ : Unit => AV.int .u32 g.next) (fun _ => rlC g hd left v) := by
 refine ACall.fin ?_
 refine ACall.walk (C := cfg 9 5) (cfgOk _ _) [] (fn := Go.Proofs.Tryz.f56) (by kernel_rfl) (by kernel_rfl) rfl (by kernel_rfl) (by kernel_rfl) rfl rfl ?_
 refine goA ?_
 refine AFn.useA [0, 1, 2, 3, 4] (noneC_ok g hd left v) fun _ => ?_
 refine goA ?_
 refine ⟨_, _, Ent.mk' (e' := [(0, AV.int .u32 g.next)]) (H' := rlC g hd left v) [some 0, some 1, some 2, some 3, some 4] (by kernel_rfl) ?_ ?_, (), rfl, rfl⟩
 ·exact ⟨AVE.refl _, trivial⟩
 ·exact subC
end
end Go.Proofs.YtnkobcokjalmoaaGreatDoor.Ax

namespace Go.Proofs.YtnkobcokjalmoaaGreatDoor.Ax
open Go.RowKit
set_option maxRecDepth 100000
noncomputable def cfgBh (N b : Nat) : Cfg := { P := Go.Proofs.Tryz.prog, T := tt, cuts := [3036], wr := false, N := N, pure := (cfgRl 0 0).pure, base := b, frz := frzF }
theorem cfgBhOk (N b : Nat) : (cfgBh N b).Ok := ⟨ttOk, ttBytes, by kernel_rfl⟩
theorem RS.loads {lim fst i : Nat} {L : List Rec} {s : RS} (h : s.Ok lim fst L i) (hlim : lim ≤ 16777216) (hi : i ≤ 60) {k : Nat} (hk : k < s.d.length) : ∃ S : SC, S.why = 0 ∧ S.slOf (fst + k) = sealS (fst + k) (s.d.getD k default).l ∧ S.end_ ≤ 90000000 ∧ 25 * (S.found.length + S.passed.length) ≤ S.end_ ∧ offAt (s.d.getD k default).l (s.d.getD k default).l.length ≤ lim ∧ AFn Go.Proofs.Tryz.prog 21 [.ptr 0 0, AV.int .u32 (fst + k : Nat)] (fone s.v) (fun _ : Unit => .tup [scA (fst + k) S, AV.int .i64 0]) (fun _ => fone s.v) := by
 have hmem : s.d.getD k default ∈ s.d := by
  rw [List.getD_eq_getElem?_getD, List.getElem?_eq_getElem hk]
  exact List.getElem_mem hk
 have hmem2 : s.d.getD k default ∈ s.d ++ [(⟨s.id, s.l, s.c⟩ : Sg)] := List.mem_append_left _ hmem
 have hid := h.ids k (Nat.le_of_lt hk)
 unfold RS.S at hid
 rw [List.getD_eq_getElem?_getD, List.getElem?_append_left hk, ← List.getD_eq_getElem?_getD] at hid
 have hsz := h.rb.ri.size _ hmem2
 have hA := h.rb.ri.ascOf hmem2
 have hI := (h.rb.ri.ids _ hmem2).1
 have hfew := h.few
 have hLo := ((h.rb.ri.safe _ hmem2).2).loaded h.rb.ri.ok (by omega) h.rb.ri.up hI hA (by omega)
 have hSl := segS_sealA (s.d.getD k default).id (s.d.getD k default).l
 rw [hid] at hLo hSl
 refine ⟨segS (s.d.getD k default).l, rfl, hSl, ?_, ?_, hsz, hLo⟩
 ·show offAt (s.d.getD k default).l (s.d.getD k default).l.length ≤ 90000000
  omega
 ·show 25 * ((fnds 16 (s.d.getD k default).l).length + 0) ≤ offAt (s.d.getD k default).l (s.d.getD k default).l.length
  rw [fnds_len]
  have := encs_len_ge (s.d.getD k default).l
  unfold offAt
  rw [List.take_length]
  omega
theorem RS.hdLen (s : RS) : s.hd.length = 2 * s.d.length + 1 := by
 unfold RS.hd
 rw [List.length_append, heardOf_len]
 rfl
theorem RS.hdAdd {lim fst i : Nat} {L : List Rec} {s : RS} (h : s.Ok lim fst L i) {k : Nat} (hk : k ≤ s.d.length) : s.hd.getD (2 * k) default = .add (fst + k) := by
 have hd := heardOf_len s.d
 unfold RS.hd
 by_cases e : k = s.d.length
 ·subst e
  rw [List.getD_eq_getElem?_getD, List.getElem?_append_right (by omega), hd, Nat.sub_self, h.idEq]
  rfl
 ·have hid := h.ids k hk
  unfold RS.S at hid
  rw [List.getD_eq_getElem?_getD, List.getElem?_append_left (by omega), ← List.getD_eq_getElem?_getD] at hid
  rw [List.getD_eq_getElem?_getD, List.getElem?_append_left (by omega), ← List.getD_eq_getElem?_getD, heardOf_add (by omega), hid]
theorem RS.hdShut {lim fst i : Nat} {L : List Rec} {s : RS} (h : s.Ok lim fst L i) {k : Nat} (hk : k < s.d.length) : s.hd.getD (2 * k + 1) default = .shut (sealS (fst + k) (s.d.getD k default).l) := by
 have hd := heardOf_len s.d
 have hid := h.ids k (Nat.le_of_lt hk)
 unfold RS.S at hid
 rw [List.getD_eq_getElem?_getD, List.getElem?_append_left hk, ← List.getD_eq_getElem?_getD] at hid
 unfold RS.hd
 rw [List.getD_eq_getElem?_getD, List.getElem?_append_left (by omega), ← List.getD_eq_getElem?_getD, heardOf_seal hk, hid]
set_option maxHeartbeats 4000000 in
theorem back_end {lim : Nat} {L : List Rec} {s : RS} (h : s.Ok lim 5 L L.length) (hl1 : 4096 ≤ lim) (hl2 : lim ≤ 16777216) (hL : L.length ≤ 60) :
 AWP (cfgRl 255 0) (tailC 12 (bodyOf Go.Proofs.Tryz.f10)) [(0, recsA L), (7, AV.int .i64 lim), (8, .ptr 1 0), (10, .ptr 3 0), (20, AV.int .u32 (5 + s.d.length : Nat))] (rlO s.g s.hd (-1) s.v s.sg) (LawQ Go.Proofs.Tryz.f10) := by
 have hfew := h.few
 have hlen := s.hdLen
 have hsz := h.sizeLe
 have hpos := h.pos
 have hcnt := h.count (Nat.le_refl _)
 have hid : s.sg.s.id = 5 + s.d.length := h.idEq
 have hnx := h.next
 have hgl : s.g.sealed.length = s.d.length := by rw [h.gs, sealsOf_len]
 have hss : s.sg.s.size ≤ lim := hsz
 have hw : wrK .u32 ((s.hd.length : Int) % 2) = 1 := by
  rw [show ((s.hd.length : Int) % 2) = 1 by omega]
  rfl
 refine AWP.go (S := sch10) (cfgRlOk _ _) (.of_eq (by kernel_rfl)) ?_
 refine goA ?_
 refine AFn.useA [0, 1, 2, 3, 4, 5] (rollOpen_fn (v := s.v) (s := s.sg) s.g s.hd (-1)) fun _ => ?_
 refine goA ?_
 rw [show decide (true = decide ((L.length : Int) > 0)) = true from decide_eq_true (decide_eq_true (by omega)).symm]
 refine goA ?_
 refine ifdA (fun q1 => ?_) (fun q1 => ?_) <;> (try dsimp only at q1)
 rotate_left
 ·exfalso; omega
 refine goA ?_
 refine ifdA (fun q2 => ?_) (fun q2 => ?_) <;> (try dsimp only at q2)
 rotate_left
 ·exfalso; omega
 refine goA ?_
 refine And.intro ?_ ?_ <;> (refine goA ?_)
 all_goals
  refine AFn.useA [0, 1, 2, 3, 4, 5] (sealedO_fn (v := s.v) (s := s.sg) s.g s.hd (-1) (by omega)) fun _ => ?_
  refine goA ?_
  refine ifdA (fun q3 => ?_) (fun q3 => ?_) <;> (try dsimp only at q3)
  rotate_left
  ·exfalso; omega
  refine goA ?_
  refine AFn.useA [0, 1, 2, 3, 4, 5] (rollNext_fn (v := s.v) (s := s.sg) s.g s.hd (-1)) fun _ => ?_
  refine goA ?_
  refine ⟨_, _, Ent.mk' (e' := [(0, AV.bool true)]) (H' := ⟨0, []⟩) [] (by kernel_rfl) ?_ ?_, (), rfl, rfl⟩
  ·exact ⟨AVE.bool (decide_eq_true (by omega)), trivial⟩
  ·trivial
set_option maxHeartbeats 4000000 in
theorem back_heard {lim : Nat} {L : List Rec} {s : RS} (h : s.Ok lim 5 L L.length) (hl1 : 4096 ≤ lim) (hl2 : lim ≤ 16777216) (hL : L.length ≤ 60) :
 AWP (cfgBh 255 0) (tailC 10 (bodyOf Go.Proofs.Tryz.f10)) [(0, recsA L), (5, .ptr 0 0), (7, AV.int .i64 lim), (8, .ptr 1 0), (10, .ptr 3 0)] (rlO s.g s.hd (-1) s.v s.sg) (LawQ Go.Proofs.Tryz.f10) := by
 have hfew := h.few
 have hlen := s.hdLen
 refine AWP.go (S := sch10) (cfgBhOk _ _) (.of_eq (by kernel_rfl)) ?_
 refine goA ?_
 refine AWP.loop (X := { j : Nat // j ≤ s.hd.length }) (fun j => [(0, recsA L), (5, .ptr 0 0), (7, AV.int .i64 lim), (8, .ptr 1 0), (10, .ptr 3 0), (20, AV.int .u32 (5 + j.1 / 2 : Nat)), (127, .row 4 5 0 s.hd.length), (128, AV.int .i64 s.hd.length), (129, AV.int .i64 j.1)]) (fun j => rlO s.g s.hd (-1) s.v s.sg) (fun j => s.hd.length - j.1) (⟨0, Nat.zero_le _⟩) ?_ fun j => AWP.go (S := sch10) (cfgBhOk _ _) (.of_eq (by kernel_rfl)) ?_
 ·exact Ent.mkA [some 0, some 1, some 2, some 3, some 4, some 5]
 ·obtain ⟨j, hj⟩ := j
  dsimp only
  refine goA ?_
  refine ifdA (fun h1 => ?_) (fun h1 => ?_) <;> (try dsimp only at h1)
  ·have hlt : j < s.hd.length := by omega
   have hgi : s.hd.getD (0 + ((j : Nat) : Int).toNat) default = s.hd.getD j default := by rw [Nat.zero_add]; rfl
   obtain ⟨k, hk⟩ : ∃ k, j = 2 * k ∨ j = 2 * k + 1 := ⟨j / 2, by omega⟩
   refine goA ?_
   rw [hgi]
   rcases hk with rfl | rfl
   ·have e := RS.hdAdd h (k := k) (by omega)
    have hid2 : (Ed.add (5 + k)).id = 5 + k := rfl
    rw [e]
    refine goA ?_
    refine ifdA (fun q1 => ?_) (fun q1 => ?_) <;> (try dsimp only at q1)
    rotate_left
    ·exfalso; omega
    refine goA ?_
    refine ifdA (fun q2 => ?_) (fun q2 => ?_) <;> (try dsimp only at q2)
    ·exfalso; omega
    refine goA ?_
    refine ifdA (fun q3 => ?_) (fun q3 => ?_) <;> (try dsimp only at q3)
    ·exfalso; omega
    refine goA ?_
    refine ⟨⟨2 * k + 1, by omega⟩, Ent.mkA [some 0, some 1, some 2, some 3, some 4, some 5], ?_⟩
    show s.hd.length - (2 * k + 1) < s.hd.length - 2 * k
    omega
   ·have e := RS.hdShut h (k := k) (by omega)
    obtain ⟨S, c1, c2, c3, c4, c5, c6⟩ := RS.loads h hl2 hL (k := k) (by omega)
    have hSc := scanSeal_ok (5 + k) S c3 c4
    rw [c2] at hSc
    rw [e, show (2 * k + 1) / 2 = k by omega]
    generalize (s.d.getD k default).l = l at *
    have hsl : (Ed.shut (sealS (5 + k) l)).seals.length = 1 := rfl
    have hsi : ((Ed.shut (sealS (5 + k) l)).seals.getD (Int.toNat 0) default) = sealS (5 + k) l := rfl
    have hs1 : (sealS (5 + k) l).id = 5 + k := rfl
    have hs3 : ((Ed.shut (sealS (5 + k) l)).seals.getD (Int.toNat 0) default).size = offAt l l.length := rfl
    have hq : ∀ x : Int, decide (x = x) = true := fun x => decide_eq_true rfl
    refine goA ?_
    refine ifdA (fun q1 => ?_) (fun q1 => ?_) <;> (try dsimp only at q1)
    ·exfalso; omega
    refine goA ?_
    refine ifdA (fun q2 => ?_) (fun q2 => ?_) <;> (try dsimp only at q2)
    rotate_left
    ·exfalso; omega
    refine goA ?_
    refine AFn.useA [0] (c6) fun _ => ?_
    refine goA ?_
    rw [hsi]
    refine ifdA (fun q3 => ?_) (fun q3 => ?_) <;> (try dsimp only at q3)
    ·exfalso; omega
    refine goA ?_
    refine AFn.useA [] (hSc) fun _ => ?_
    refine goA ?_
    rw [hsi, hq, hq, hq, hq, hq]
    refine goA ?_
    refine ifdA (fun q4 => ?_) (fun q4 => ?_) <;> (try dsimp only at q4)
    ·exfalso; omega
    refine goA ?_
    refine ifdA (fun q5 => ?_) (fun q5 => ?_) <;> (try dsimp only at q5)
    ·exfalso; omega
    refine goA ?_
    refine ⟨⟨2 * k + 1 + 1, by omega⟩, Ent.mkA [some 0, some 1, some 2, some 3, some 4, some 5], ?_⟩
    show s.hd.length - (2 * k + 1 + 1) < s.hd.length - (2 * k + 1)
    omega
  ·refine goA ?_
   exact ⟨(AWP.of_ent (C := cfgRl 255 0) (Ent.mkA [some 0, some 1, some 2, some 3, some 4, some 5]) (back_end h hl1 hl2 hL)).run⟩
end Go.Proofs.YtnkobcokjalmoaaGreatDoor.Ax

namespace Go.Proofs.YtnkobcokjalmoaaGreatDoor.Ax
open Go.RowKit
set_option maxRecDepth 100000
noncomputable def cfgBr (N b : Nat) : Cfg := { P := Go.Proofs.Tryz.prog, T := tt, cuts := [3024], wr := false, N := N, pure := (cfgRl 0 0).pure, base := b, frz := frzF }
theorem cfgBrOk (N b : Nat) : (cfgBr N b).Ok := ⟨ttOk, ttBytes, by kernel_rfl⟩
noncomputable def cfgBq (N b : Nat) : Cfg := { P := Go.Proofs.Tryz.prog, T := tt, cuts := [3013, 3017], wr := false, N := N, pure := (cfgRl 0 0).pure, base := b, frz := frzF }
theorem cfgBqOk (N b : Nat) : (cfgBq N b).Ok := ⟨ttOk, ttBytes, by kernel_rfl⟩
def locG (A : List (Nat × Nat)) (i : Nat) : List IV := [.v (.int .u32 (A.getD i default).1), .v (.int .u32 (A.getD i default).2)]
theorem locG_push {e i : Nat} {A : List (Nat × Nat)} {p : Nat × Nat} (hA : A.length = i) {g : Nat → List IV} (hg : g 0 = [.v (.int .u32 p.1), .v (.int .u32 p.2)]) : ChE (.rowc e 2 (i + 1) fun j => if j < i then locG A j else g (j - i)) (.rowc e 2 (i + 1) (locG (A ++ [p]))) := by
 refine ChE.row (Nat.le_refl _) fun j hj => ?_
 by_cases h : j < i
 ·simp only [if_pos h]
  unfold locG
  rw [List.getD_eq_getElem?_getD, List.getD_eq_getElem?_getD, List.getElem?_append_left (by omega)]
 ·have : j = i := by omega
  subst this
  simp only [if_neg h, Nat.sub_self]
  rw [hg]
  unfold locG
  rw [List.getD_eq_getElem?_getD, List.getElem?_append_right (by omega), hA, Nat.sub_self]
  rfl
@[reducible] def rbH (s : RS) (A : List (Nat × Nat)) (i : Nat) : AH := ⟨7, [(0, .sem (fsV s.v)), (1, rollP s.g 2 (.ptr 5 0)), (2, sealsP s.g), (3, earP 4 s.hd (-1)), (4, hdP s.hd), (5, segP s.sg), (6, .rowc 53 2 i (locG A))]⟩
@[reducible] def rbZ (lim : Nat) : AH := ⟨6, [(0, .sem (fsV (VM.new 1073741824))), (1, rollP ⟨lim, [], 5, 0⟩ 2 AV.nilPtr), (2, sealsP ⟨lim, [], 5, 0⟩), (3, earP 4 [] (-1)), (4, hdP []), (5, .rowc 53 2 0 (locG []))]⟩
inductive BW (lim : Nat) (L : List Rec) where
 | none : BW lim L
 | at (i : Nat) (t : RS) (hi : i ≤ L.length) (h : t.Ok lim 5 L i) (hk : t.k ≤ 8 * i) : BW lim L
section
variable {lim : Nat} {L : List Rec}
def BW.i : BW lim L → Nat
 | .none => 0
 | .at i .. => i
def BW.r : BW lim L → Nat
 | .none => 5
 | .at .. => 6
def BW.H : BW lim L → AH
 | .none => rbZ lim
 | .at i t .. => rbH t (locsOf t.S) i
set_option maxHeartbeats 4000000 in
theorem back_read (hN : Numd L) {s : RS} (h : s.Ok lim 5 L L.length) (hl1 : 4096 ≤ lim) (hl2 : lim ≤ 16777216) (hL : L.length ≤ 60) :
 AWP (cfgBr 255 0) (tailC 9 (bodyOf Go.Proofs.Tryz.f10)) [(0, recsA L), (5, .ptr 0 0), (7, AV.int .i64 lim), (8, .ptr 1 0), (10, .ptr 3 0), (11, .row 6 2 0 L.length)] (rbH s (locsOf s.S) L.length) (LawQ Go.Proofs.Tryz.f10) := by
 have hfew := h.few
 have hri := h.rb.ri
 rw [List.take_length] at hri
 have hRd := fun i (hi : i < L.length) => roll_read s.g s.hd (-1) (sf := s.sf) hri hl2 (by omega) h.gs (by omega) hi
 refine AWP.go (S := sch10) (cfgBrOk _ _) (.of_eq (by kernel_rfl)) ?_
 refine goA ?_
 refine AWP.loop (X := { i : Nat // i ≤ L.length }) (fun i => [(0, recsA L), (5, .ptr 0 0), (7, AV.int .i64 lim), (8, .ptr 1 0), (10, .ptr 3 0), (11, .row 6 2 0 L.length), (99, recsA L), (100, AV.int .i64 L.length), (101, AV.int .i64 i.1)]) (fun i => rbH s (locsOf s.S) L.length) (fun i => L.length - i.1) (⟨0, Nat.zero_le _⟩) ?_ fun i => AWP.go (S := sch10) (cfgBrOk _ _) (.of_eq (by kernel_rfl)) ?_
 ·exact Ent.mkA [some 0, some 1, some 2, some 3, some 4, some 5, some 6]
 ·obtain ⟨i, hi⟩ := i
  dsimp only
  refine goA ?_
  refine ifdA (fun h1 => ?_) (fun h1 => ?_) <;> (try dsimp only at h1)
  ·have hlt : i < L.length := by omega
   have hsm := recSame_ok (L.getD i default) (L.getD i default) (May.B (hN.getMay hlt)) (May.B (hN.getMay hlt))
   rw [decide_eq_true rfl] at hsm
   have hix : (0 + ((i : Nat) : Int).toNat) = i := Nat.zero_add i
   refine goA ?_
   rw [hix]
   refine AFn.useA [0, 1, 2, 3, 4, 5] (hRd i hlt) fun _ => ?_
   refine goA ?_
   refine AFn.useA [] (hsm) fun _ => ?_
   refine goA ?_
   refine ⟨⟨i + 1, hlt⟩, Ent.mkA [some 0, some 1, some 2, some 3, some 4, some 5, some 6], ?_⟩
   show L.length - (i + 1) < L.length - i
   omega
  ·refine goA ?_
   exact ⟨(AWP.of_ent (C := cfgBh 255 0) (Ent.mkA [some 0, some 1, some 2, some 3, some 4, some 5]) (back_heard h hl1 hl2 hL)).run⟩
end
set_option maxHeartbeats 4000000 in
theorem back_none (lim : Nat) (_hl1 : 4096 ≤ lim) (_hl2 : lim ≤ 16777216) :
 AWP (cfgRl 255 0) (tailC 9 (bodyOf Go.Proofs.Tryz.f10)) [(0, recsA []), (5, .ptr 0 0), (7, AV.int .i64 lim), (8, .ptr 1 0), (10, .ptr 3 0), (11, .row 5 2 0 0)] (rbZ lim) (LawQ Go.Proofs.Tryz.f10) := by
 refine AWP.go (S := sch10) (cfgRlOk _ _) (.of_eq (by kernel_rfl)) ?_
 refine goA ?_
 refine AWP.loop (X := Unit) (fun i => [(0, recsA []), (8, .ptr 1 0), (7, AV.int .i64 lim), (10, .ptr 3 0), (99, recsA []), (100, AV.int .i64 0), (101, AV.int .i64 0)]) (fun i => rlC ⟨lim, [], 5, 0⟩ [] (-1) (VM.new 1073741824)) (fun i => 0) (()) ?_ fun i => AWP.go (S := sch10) (cfgRlOk _ _) (.of_eq (by kernel_rfl)) ?_
 ·exact Ent.mkA [some 0, some 1, some 2, some 3, some 4]
 ·refine goA ?_
  refine AWP.loop (X := Unit) (fun i => [(0, recsA []), (8, .ptr 1 0), (7, AV.int .i64 lim), (10, .ptr 3 0), (20, AV.int .u32 5), (127, .row 4 5 0 0), (128, AV.int .i64 0), (129, AV.int .i64 0)]) (fun i => rlC ⟨lim, [], 5, 0⟩ [] (-1) (VM.new 1073741824)) (fun i => 0) (()) ?_ fun i => AWP.go (S := sch10) (cfgRlOk _ _) (.of_eq (by kernel_rfl)) ?_
  ·exact Ent.mkA [some 0, some 1, some 2, some 3, some 4]
  ·refine goA ?_
   refine AFn.useA [0, 1, 2, 3, 4] (openC_fn ⟨lim, [], 5, 0⟩ [] (-1) (v := VM.new 1073741824)) fun _ => ?_
   refine goA ?_
   refine And.intro ?_ ?_ <;> (refine goA ?_)
   all_goals
    refine AFn.useA [0, 1, 2, 3, 4] (sealedC_fn ⟨lim, [], 5, 0⟩ [] (-1) (v := VM.new 1073741824) (Nat.zero_le _)) fun _ => ?_
    refine goA ?_
    refine AFn.useA [0, 1, 2, 3, 4] (nextC_fn ⟨lim, [], 5, 0⟩ [] (-1) (v := VM.new 1073741824)) fun _ => ?_
    refine goA ?_
    refine ⟨_, _, Ent.mk' (e' := [(0, AV.bool true)]) (H' := ⟨0, []⟩) [] (by kernel_rfl) ?_ ?_, (), rfl, rfl⟩
    ·exact ⟨AVE.bool (by rfl), trivial⟩
    ·trivial
set_option maxHeartbeats 4000000 in
theorem rollBack_law (l : List Rec) (hl : l.length ≤ 9223372036854775807 ∧ ∀ r ∈ l, r.W) (lm : Nat) (hlm : lm ≤ 65535) : Law Go.Proofs.Tryz.prog 10 [recsA l, AV.int .u16 lm] := by
 have hnum := numbered60_ok l hl.1 hl.2
 obtain ⟨hN, hL⟩ := numb_ok (cap := 60) l [] Numd.nil (Nat.zero_le _)
 have hN : Numd (numb 60 l) := hN
 have hL : (numb 60 l).length ≤ 60 := hL
 generalize numb 60 l = L at *
 obtain ⟨lim, hlim⟩ : ∃ lim, lim = 4096 + lm % 8193 := ⟨_, rfl⟩
 have hl1 : 4096 ≤ lim := by omega
 have hl2 : lim ≤ 16777216 := by omega
 have hlI : 4096 + (lm : Int) % 8193 = (lim : Int) := by omega
 refine ACall.fin ?_
 refine ACall.walk (C := cfgBq 255 0) (cfgBqOk _ _) sch10 (fn := Go.Proofs.Tryz.f10) (by kernel_rfl) (by kernel_rfl) rfl (by kernel_rfl) (by kernel_rfl) rfl rfl ?_
 refine goA ?_
 refine AFn.useA [] (hnum) fun _ => ?_
 refine goA ?_
 refine AFn.useA [] (new_fs 1073741824 (by decide)) fun _ => ?_
 refine goA ?_
 rw [hlI]
 refine goA ?_
 refine AFn.useA [0] (rollNew_ok lim 5 ⟨hl1, hl2⟩ (VM.new 1073741824)) fun _ => ?_
 refine goA ?_
 refine AFn.useA [] (wakes13_ok) fun _ => ?_
 refine goA ?_
 refine AWP.loop (X := BW lim L) (fun x => [(0, recsA L), (5, .ptr 0 0), (7, AV.int .i64 lim), (8, .ptr 1 0), (10, .ptr 3 0), (11, .row x.r 2 0 x.i), (56, recsA L), (57, AV.int .i64 L.length), (58, AV.int .i64 x.i)]) (fun x => x.H) (fun x => L.length - x.i) (BW.none) ?_ fun x => AWP.go (S := sch10) (cfgBqOk _ _) (.of_eq (by kernel_rfl)) ?_
 ·refine (HEnt.ent (HEnt.addNil 128 5 (edF []))).trans ((HEnt.ent (HEnt.addNil 53 2 (locG []))).trans ?_)
  exact Ent.mk' (H' := rbZ lim) [some 0, some 1, some 2, some 3, some 4, some 5] (by kernel_rfl) ⟨AVE.refl _, AVE.refl _, AVE.refl _, AVE.refl _, AVE.refl _, AVE.nil _ _, AVE.refl _, AVE.refl _, AVE.refl _, trivial⟩ ⟨⟨_, rfl, ChE.refl _⟩, ⟨_, rfl, ChE.refl _⟩, ⟨_, rfl, ChE.refl _⟩, ⟨_, rfl, ChE.cells (by exact ⟨AVE.nil _ _, AVE.refl _, rfl⟩)⟩, ⟨_, rfl, ChE.refl _⟩, ⟨_, rfl, ChE.refl _⟩, trivial⟩
 ·rcases x with _ | ⟨i, s, hi, hs, hk⟩
  ·dsimp only [BW.i, BW.r]
   refine goA ?_
   refine ifdA (fun h => ?_) (fun h => ?_) <;> (try dsimp only at h)
   ·have hlt : 0 < L.length := by omega
    obtain ⟨t0, hA0, hApp⟩ := RS.begins (RB.new (lim := lim) (fst := 5) (by decide)) rfl hN hlt hl1 hl2 (by decide)
    refine goA ?_
    apply AWP.aheadX (X := { t : RS // RS.After lim 5 L 0 0 [] t }) (C := cfgRl 255 0) (fun _ => [(0, recsA L), (5, .ptr 0 0), (7, AV.int .i64 lim), (8, .ptr 1 0), (10, .ptr 3 0), (11, .row 6 2 0 (0 : Nat)), (12, AV.int .i64 (0 : Nat)), (13, .ptr 7 0), (14, .ptr 8 0), (15, AV.int .i64 0), (56, recsA L), (57, AV.int .i64 L.length), (58, AV.int .i64 (0 : Nat))]) (fun t => ⟨9, [(0, .sem (fsV t.1.v)), (1, rollP t.1.g 2 (.ptr 5 0)), (2, sealsP t.1.g), (3, earP 4 t.1.hd (-1)), (4, hdP t.1.hd), (5, segP t.1.sg), (6, .rowc 53 2 0 (locG [])), (7, boxR (L.getD 0 default)), (8, boxL t.1.loc.1 t.1.loc.2)]⟩)
    ·intro key
     refine AFn.useA [0, 1, 2, 3, 4] (hApp) fun _ => ?_
     refine goA ?_
     exact ⟨(AWP.of_ent (C := cfgRl 255 0) (Ent.mkA [some 0, some 1, some 2, some 3, some 8, some 7, some 5, some 6, some 9]) (key ⟨t0, hA0⟩)).run⟩
    ·intro x
     obtain ⟨t, hA⟩ := x
     dsimp only
     have ht := hA.ok
     have hin : 0 + 1 ≤ L.length := by omega
     have hsq : (L.getD 0 default).seq = 0 + 1 := hN.seq 0 (by omega)
     have hlast : lastR t.sg.s.last t.g.sealed = 0 + 1 := ht.last hN hin
     have htf := ht.few
     have hgl : t.g.sealed.length ≤ 1000 := by rw [ht.gs, sealsOf_len]; omega
     have hlo := hA.locs
     refine AWP.go (S := sch10) (cfgRlOk _ _) (.of_eq (by kernel_rfl)) ?_
     refine goA ?_
     refine AFn.useA [0, 1, 2, 3, 4, 5] (lastO_ok t.g t.hd (-1) t.v t.sg hgl) fun _ => ?_
     refine goA ?_
     rw [hlast, decide_eq_false (show ¬ ((0 + 1 : Nat) : Int) ≠ ((L.getD 0 default).seq : Int) by omega)]
     refine goA ?_
     refine AWP.go (S := []) (cfgBqOk _ _) (.of_eq (by kernel_rfl)) ?_
     refine goA ?_
     refine ⟨BW.at (0 + 1) t hin ht (by have := hA.kle; omega), ?_, by show L.length - (0 + 1) < L.length - 0; omega⟩
     show Ent _ _ _ _ _ (rbH t (locsOf t.S) (0 + 1))
     rw [hlo]
     exact Ent.mk' [some 0, some 1, some 2, some 3, some 4, some 5, some 10] (by kernel_rfl) ⟨AVE.refl _, AVE.refl _, AVE.refl _, AVE.refl _, AVE.refl _, AVE.refl _, AVE.refl _, AVE.refl _, AVE.int (by show ((0 : Nat) : Int) + 1 = ((0 + 1 : Nat) : Int); omega), trivial⟩ ⟨⟨_, rfl, ChE.refl _⟩, ⟨_, rfl, ChE.refl _⟩, ⟨_, rfl, ChE.refl _⟩, ⟨_, rfl, ChE.refl _⟩, ⟨_, rfl, ChE.refl _⟩, ⟨_, rfl, ChE.refl _⟩, ⟨_, rfl, locG_push (A := []) (i := 0) (p := t.loc) rfl rfl⟩, trivial⟩
   ·have hz : L = [] := List.eq_nil_of_length_eq_zero (by omega)
    subst hz
    refine goA ?_
    exact ⟨(AWP.of_ent (C := cfgRl 255 0) (Ent.mkA [some 0, some 1, some 2, some 3, some 4, some 5]) (back_none lim hl1 hl2)).run⟩
  ·dsimp only [BW.i, BW.r]
   refine goA ?_
   refine ifdA (fun h => ?_) (fun h => ?_) <;> (try dsimp only at h)
   ·have hlt : i < L.length := by omega
    have hApp := RS.goes hs hk hN hlt hL hl1 hl2 (by decide)
    refine goA ?_
    apply AWP.aheadX (X := { t : RS // RS.After lim 5 L i s.g.safe (locsOf s.S) t }) (C := cfgRl 255 0) (fun _ => [(0, recsA L), (5, .ptr 0 0), (7, AV.int .i64 lim), (8, .ptr 1 0), (10, .ptr 3 0), (11, .row 6 2 0 i), (12, AV.int .i64 i), (13, .ptr 7 0), (14, .ptr 8 0), (15, AV.int .i64 0), (56, recsA L), (57, AV.int .i64 L.length), (58, AV.int .i64 i)]) (fun t => ⟨9, [(0, .sem (fsV t.1.v)), (1, rollP t.1.g 2 (.ptr 5 0)), (2, sealsP t.1.g), (3, earP 4 t.1.hd (-1)), (4, hdP t.1.hd), (5, segP t.1.sg), (6, .rowc 53 2 i (locG (locsOf s.S))), (7, boxR (L.getD i default)), (8, boxL t.1.loc.1 t.1.loc.2)]⟩)
    ·intro key
     refine AFn.useA [0, 1, 2, 3, 4, 5] (hApp) fun x => ?_
     obtain ⟨⟨b, t⟩, hA⟩ := x
     cases b
     ·refine goA ?_
      exact ⟨(AWP.of_ent (C := cfgRl 255 0) (Ent.mkA [some 0, some 1, some 2, some 3, some 4, some 5, some 6, some 7, some 8]) (key ⟨t, hA⟩)).run⟩
     ·refine goA ?_
      exact ⟨(AWP.of_ent (C := cfgRl 255 0) (Ent.mkA [some 0, some 1, some 8, some 3, some 10, some 9, some 6, some 7, some 11]) (key ⟨t, hA⟩)).run⟩
    ·intro x
     obtain ⟨t, hA⟩ := x
     dsimp only
     have ht := hA.ok
     have hin : i + 1 ≤ L.length := by omega
     have hsq : (L.getD i default).seq = i + 1 := hN.seq i (by omega)
     have hlast : lastR t.sg.s.last t.g.sealed = i + 1 := ht.last hN hin
     have htf := ht.few
     have hgl : t.g.sealed.length ≤ 1000 := by rw [ht.gs, sealsOf_len]; omega
     have hlo := hA.locs
     have hf0 := hs.few
     have hal := (hs.lastLoc (Nat.le_of_lt hlt)).1
     have hrise : LocLt ((locsOf s.S).getD (i - 1) default) t.loc := by
      rcases hA.rise with g | g
      ·rw [g] at hal
       have hal : 0 = i := hal
       omega
      ·exact g
     have hix : (0 + ((((i : Nat) : Int) - 1).toNat)) = i - 1 := by omega
     refine AWP.go (S := sch10) (cfgRlOk _ _) (.of_eq (by kernel_rfl)) ?_
     refine goA ?_
     refine ifdA (fun q1 => ?_) (fun q1 => ?_) <;> (try dsimp only at q1)
     rotate_left
     ·exfalso; omega
     refine goA ?_
     rw [hix]
     refine AFn.useA [] (locLt_ok hrise) fun _ => ?_
     refine goA ?_
     refine AFn.useA [0, 1, 2, 3, 4, 5] (lastO_ok t.g t.hd (-1) t.v t.sg hgl) fun _ => ?_
     refine goA ?_
     rw [hlast, decide_eq_false (show ¬ ((i + 1 : Nat) : Int) ≠ ((L.getD i default).seq : Int) by omega)]
     refine goA ?_
     refine AWP.go (S := []) (cfgBqOk _ _) (.of_eq (by kernel_rfl)) ?_
     refine goA ?_
     refine ⟨BW.at (i + 1) t hin ht (by have := hA.kle; omega), ?_, by show L.length - (i + 1) < L.length - i; omega⟩
     show Ent _ _ _ _ _ (rbH t (locsOf t.S) (i + 1))
     rw [hlo]
     exact Ent.mk' [some 0, some 1, some 2, some 3, some 4, some 5, some 10] (by kernel_rfl) ⟨AVE.refl _, AVE.refl _, AVE.refl _, AVE.refl _, AVE.refl _, AVE.refl _, AVE.refl _, AVE.refl _, AVE.int (by show ((i : Nat) : Int) + 1 = ((i + 1 : Nat) : Int); omega), trivial⟩ ⟨⟨_, rfl, ChE.refl _⟩, ⟨_, rfl, ChE.refl _⟩, ⟨_, rfl, ChE.refl _⟩, ⟨_, rfl, ChE.refl _⟩, ⟨_, rfl, ChE.refl _⟩, ⟨_, rfl, ChE.refl _⟩, ⟨_, rfl, locG_push hal rfl⟩, trivial⟩
   ·have hz : i = L.length := by omega
    subst hz
    refine goA ?_
    exact ⟨(AWP.of_ent (C := cfgBr 255 0) (Ent.mkA [some 0, some 1, some 2, some 3, some 4, some 5, some 6]) (back_read hN hs hl1 hl2 hL)).run⟩
end Go.Proofs.YtnkobcokjalmoaaGreatDoor.Ax

namespace Go.Proofs.YtnkobcokjalmoaaGreatDoor.Ax
open Go.RowKit Go.ChangeShapes
theorem laid_mem {P : Program} {W : World} : ∀ {l : List (String × DataW Unit)} {ps : List MemPlace}, DataW.LaidVars P W l ps → ∀ {n d}, (n, d) ∈ l →
 ∃ g t cs fuel p, P.globalNamed n = some g ∧ (P.globals[g]?).map (·.type) = some t ∧ W.var? P n = some cs ∧ DataW.trod (fun _ => ()) P W 0 (fun _ => true) false fuel t cs.toList = some (d, p) ∧ ∀ q ∈ MemPlace.row ⟨g, 0, none⟩ cs.size ++ p, q ∈ ps
 | [], _, _, _, _, h => by cases h
 | (n', d') :: r, ps, h, n, d, hm => by
  obtain ⟨g, t, cs, fuel, p, q, h1, h2, h3, h4, h5, rfl⟩ := h
  rcases List.mem_cons.1 hm with hm | hm
  ·obtain ⟨rfl, rfl⟩ := Prod.mk.injEq .. ▸ hm
   exact ⟨g, t, cs, fuel, p, h1, h2, h3, h4, fun x hx => List.mem_append_left _ hx⟩
  ·obtain ⟨g', t', cs', fuel', p', k1, k2, k3, k4, k5⟩ := laid_mem h5 hm
   exact ⟨g', t', cs', fuel', p', k1, k2, k3, k4, fun x hx => List.mem_append_right _ (k5 x hx)⟩
theorem laid_one {P : Program} {W : World} {l : List (String × DataW Unit)} (h : laidMetH P l W) {n : String} {d : DataW Unit} (hm : (n, d) ∈ l) (hn : d.handleName?.isNone = true) :
 ∃ g t cs fuel p, P.globalNamed n = some g ∧ (P.globals[g]?).map (·.type) = some t ∧ W.var? P n = some cs ∧ DataW.trod (fun _ => ()) P W 0 (fun _ => true) false fuel t cs.toList = some (d, p) ∧
   ∀ b off, MemPlace.cell b off ∈ MemPlace.row ⟨g, 0, none⟩ cs.size ++ p → ∀ u v, W.cell? ⟨b, off, none⟩ = some (.iface u v) → Value.okWide P W .any 0 u v := by
 obtain ⟨h1, _⟩ := laidMetH_iff.1 h
 obtain ⟨ps, k1, _, k3⟩ := h1
 obtain ⟨g, t, cs, fuel, p, q1, q2, q3, q4, q5⟩ := laid_mem k1 (n := n) (d := d) (List.mem_filter.2 ⟨hm, hn⟩)
 exact ⟨g, t, cs, fuel, p, q1, q2, q3, q4, fun b off hb => (k3 b off (q5 _ hb)).2⟩
theorem pp_of {ι : Imm} {g : Nat} {l : List IV} {vs : List Value} (h : IV.Rs ι l vs) (hc : ∀ j u, vs[j]? = some u → ι g j = some u) : IV.R ι (.pp l) (.pointer (some ⟨g, 0, none⟩)) := by
 simp only [IV.R]
 exact ⟨⟨g, 0, none⟩, vs, rfl, rfl, h, fun j u hj => by simpa using hc j u hj⟩
theorem ints_Rs (ι : Imm) (k : IntKind) : ∀ ns : List Int, IV.Rs ι (ns.map fun n => .v (.int k n)) (ns.map fun n => Value.int k n)
 | [] => rfl
 | n :: ns => by
   rw [List.map_cons, List.map_cons]
   simp only [IV.Rs]
   exact ⟨_, _, rfl, by simp only [IV.R], ints_Rs ι k ns⟩
theorem ints_laid {P : Program} {W : World} {l : List (String × DataW Unit)} (h : laidMetH P l W) {n : String} {g t e : Nat} {k : IntKind} {ns : List Int} (hm : (n, .agg (ns.map fun x => .lit (.int k x))) ∈ l)
 (hP : P.globalNamed n = some g) (hT : (P.globals[g]?).map (·.type) = some t) (ht : P.underlying t = some (.array ns.length e)) (he : P.underlying e = some (.int k)) (hc : P.cellsOf e = 1) (_hct : P.cellsOf t = ns.length)
 (hn : (DataW.agg (ns.map fun x => .lit (.int k x)) : DataW Unit).handleName?.isNone = true) : IV.R (immOf W) (.pp (ns.map fun n => .v (.int k n))) (.pointer (some ⟨g, 0, none⟩)) := by
 obtain ⟨g', t', cs, fuel, p, h1, h2, h3, h4, _⟩ := laid_one h hm hn
 obtain rfl := Option.some.inj (hP.symm.trans h1)
 obtain rfl := Option.some.inj (hT.symm.trans h2)
 obtain ⟨xs, m, _, h5, h6, h7, h8⟩ := DataW.trod_array ht h4
 injection h5 with h5 _
 injection h5 with h5
 refine pp_of (ints_Rs _ k ns) fun j u hj => ?_
 rw [List.getElem?_map] at hj
 cases hnj : ns[j]? with
 | none => rw [hnj] at hj; cases hj
 | some z =>
   rw [hnj] at hj
   injection hj with hj
   subst hj
   have hlt : j < ns.length := (List.getElem?_eq_some_iff.1 hnj).1
   have hx := h8 j hlt
   have hxj : xs[j]?.map (·.1) = some (.lit (.int k z)) := by
    have := congrArg (fun l => l[j]?) h5
    simp only [List.getElem?_map, hnj, Option.map_some] at this
    rw [← this]
   cases hq : xs[j]? with
   | none => rw [hq] at hxj; cases hxj
   | some x =>
     rw [hq] at hx hxj
     obtain ⟨z', e1, e2, _⟩ := DataW.trod_int he hx
     rw [e2] at hxj
     injection hxj with hxj
     injection hxj with hxj
     injection hxj with _ hxj
     subst hxj
     rw [hc, Nat.mul_one] at e1
     have hcell := World.var?_cell hP h3 j
     have : cs[j]? = some (.int k z') := by
      have hh : (cs.toList.drop j).take 1 = [Value.int k z'] := e1
      have : (cs.toList.drop j)[0]? = some (Value.int k z') := by
       have := congrArg (fun l => l[0]?) hh
       simpa using this
      simpa using this
     exact immOf_mk (by rw [hcell, this]) rfl
end Go.Proofs.YtnkobcokjalmoaaGreatDoor.Ax

namespace Go.Proofs.YtnkobcokjalmoaaGreatDoor.Ax
open Go.ChangeShapes Go.WideShapes Go.ChangeAt Go.RowKit Go.Deep
def flatT (P : Program) (F : List Field) : List (Nat × TypeId) := F.flatMap fun f => match P.underlying f.type with
 | some (.struct G) => G.toList.map fun g => (f.offset + g.offset, g.type)
 | _ => [(f.offset, f.type)]
def flatOk (P : Program) (F : List Field) : Bool := F.all fun f => match P.underlying f.type with
 | some (.struct G) => G.toList.all fun g => decide (g.offset < P.cellsOf f.type)
 | _ => true
def slB (P : Program) (fs : List AT) (t : TypeId) : Bool := match P.underlying t with
 | some (.slice e) => Nat.beq (P.cellsOf e) fs.length && (!(Nat.beq fs.length 0) && (match P.underlying e with
   | some (.struct F) => AT.fitssB P fs (flatT P F.toList) 0 && flatOk P F.toList
   | _ => false))
 | _ => false
section
variable {H : Type} {enc : TypeId × Value → H} {P : Program} {w : World} {base : Nat} {spare : Nat → Bool} {held : Bool}
theorem open_flat {fs : List AT} {t : TypeId} {v : Value} {d : DataW H} {ps : List MemPlace} {r : Reach} {b0 : Nat} (hB : slB P fs t = true) (hval : Value.okWide P w r b0 t v) (hd : DataW.Trod enc P w base spare held t v d ps) : ∃ x, (AT.sl fs).Sh x ∧ IV.R (immOf w) x v := by
 unfold slB at hB
 split at hB
 ·rename_i e ht
  rw [Bool.and_eq_true, Bool.and_eq_true] at hB
  obtain ⟨hc, hz, h3⟩ := hB
  have hc : P.cellsOf e = fs.length := Nat.eq_of_beq_eq_true hc
  have hz : fs.length ≠ 0 := fun h0 => by (rw [h0] at hz; cases hz)
  split at h3
  ·rename_i F hF
   rw [Bool.and_eq_true] at h3
   obtain ⟨hft, hfk⟩ := h3
   have hft := fitss_of fs _ 0 hft
   obtain ⟨fuel, h⟩ := hd
   have hc0 : v.cells.toList = [v] := by
    obtain ⟨a0, l0, c0, rfl⟩ := okWide_slice ht hval
    rfl
   rw [hc0] at h
   have hmx : maxLen = 9223372036854775807 := by decide
   rcases open_slice ht h with ⟨hcs, _⟩ | ⟨a, len, cap, m, n, D, Pl, hcs, _, hl, hm, hmm, _, hi⟩
   ·simp only [List.cons.injEq, and_true] at hcs
    subst hcs
    refine ⟨.sl fs.length 0 fun _ => [], by simp only [AT.Sh]; exact ⟨0, _, rfl, by omega, fun i hi => by omega⟩, ?_⟩
    simp only [IV.R]
    exact ⟨none, 0, rfl, Nat.le_refl _, Nat.zero_le _, fun k hk => by omega⟩
   ·simp only [List.cons.injEq, and_true] at hcs
    subst hcs
    have hlm : len ≤ m := by rw [hmm]; split <;> omega
    have each : ∀ i, i < len → ∃ xs vs, AT.Shs fs xs ∧ IV.Rs (immOf w) xs vs ∧ ∀ j u, vs[j]? = some u → w.cell? ((a.add (i * fs.length)).add j) = some u := fun i hil => by
     obtain ⟨cs', hcell, htr⟩ := hi i (by omega)
     rw [hc] at hcell
     obtain ⟨_, hcl, hat⟩ := World.cells?_some hcell
     have hcell' : ∀ j u, cs'[j]? = some u → w.cell? ((a.add (i * fs.length)).add j) = some u := fun j u hj => by
      have : j < fs.length := by rw [← hcl]; exact (List.getElem?_eq_some_iff.1 hj).1
      rw [hat j this]; exact hj
     obtain ⟨ys, n', _, _, _, hyl, hfd⟩ := DataW.trod_struct hF htr
     obtain ⟨hfl, hfo⟩ := fitss_at hft
     obtain ⟨xs, h1, h2⟩ := open_ats fs _ 0 cs' hft hcl (fun j q hj => by
      obtain ⟨k1, k2⟩ := hfo j q hj
      simp only [Nat.zero_add] at k1
      have hjl : j < fs.length := by rw [← hfl]; exact (List.getElem?_eq_some_iff.1 hj).1
      have hone : (cs'.drop j).take 1 = [cs'[j]'(by omega)] := by
       rw [List.drop_eq_getElem_cons (by omega)]
       rfl
      obtain ⟨g, hg, hq⟩ := List.mem_flatMap.1 (List.mem_of_getElem? hj)
      obtain ⟨gi, hgi⟩ := List.getElem?_of_mem hg
      have h1 := hfd gi g (by simpa using hgi)
      have hgl : gi < ys.length := by rw [hyl]; simpa using (List.getElem?_eq_some_iff.1 hgi).1
      rw [List.getElem?_eq_getElem hgl] at h1
      have hok := List.all_eq_true.1 hfk g hg
      split at hq
      ·rename_i G hG
       obtain ⟨s, hs, rfl⟩ := List.mem_map.1 hq
       rw [hG] at hok
       have hsl := List.all_eq_true.1 hok s hs
       rw [decide_eq_true_eq] at hsl
       obtain ⟨zs, n'', _, _, _, hzl, hsd⟩ := DataW.trod_struct hG h1
       obtain ⟨si, hsi⟩ := List.getElem?_of_mem hs
       have h2 := hsd si s (by simpa using hsi)
       have hzl' : si < zs.length := by rw [hzl]; simpa using (List.getElem?_eq_some_iff.1 hsi).1
       rw [List.getElem?_eq_getElem hzl', k2, List.drop_take, List.drop_drop, List.take_take, Nat.min_eq_left (by omega)] at h2
       simp only at k1
       rw [k1, hone] at h2
       exact ⟨n'', _, _, List.getElem?_eq_getElem (by omega), h2⟩
      ·obtain rfl := List.mem_singleton.1 hq
       simp only at k1 k2
       rw [k1, k2, hone] at h1
       exact ⟨n', _, _, List.getElem?_eq_getElem (by omega), h1⟩)
     exact ⟨xs, cs', h1, h2, hcell'⟩
    let f : Nat → List IV := fun i => if h : i < len then Classical.choose (each i h) else []
    have hfi : ∀ i (h : i < len), f i = Classical.choose (each i h) := fun i h => by simp only [f, dif_pos h]
    refine ⟨.sl fs.length len f, by simp only [AT.Sh]; exact ⟨len, f, rfl, by omega, fun i hil => by rw [hfi i hil]; exact (Classical.choose_spec (each i hil)).choose_spec.1⟩, ?_⟩
    simp only [IV.R]
    refine ⟨some a, cap, rfl, hl, hm, fun k hk => ?_⟩
    obtain ⟨vs, g1, g2, g3⟩ := Classical.choose_spec (each k hk)
    rw [← hfi k hk] at g1 g2
    obtain ⟨g4, g5⟩ := Shs_one fs _ _ g1 g2
    have hs : a.spot = none := by
     obtain ⟨vs0, q1, q2, q3⟩ := Classical.choose_spec (each 0 (by omega))
     obtain ⟨_, q5⟩ := Shs_one fs _ _ q1 q2
     obtain ⟨v0, vr, hvs⟩ : ∃ v0 vr, vs0 = v0 :: vr := by
      cases vs0 with
      | nil => simp at q5; omega
      | cons v0 vr => exact ⟨v0, vr, rfl⟩
     have h0 := q3 0 v0 (by rw [hvs]; rfl)
     rw [Nat.zero_mul, show (a.add 0).add 0 = a by simp [Addr.add]] at h0
     exact cell_spot h0
    refine ⟨a, vs, rfl, hs, g2, g5, fun j u hj => ?_⟩
    have hcl := g3 j u hj
    rw [add_none' hs, add_none] at hcl
    exact immOf_mk hcl (g4 u (List.mem_of_getElem? hj))
  ·cases h3
 ·cases hB
end
end Go.Proofs.YtnkobcokjalmoaaGreatDoor.Ax

namespace Go.Proofs.YtnkobcokjalmoaaGreatDoor.Ax
open Go.ChangeShapes Go.WideShapes Go.RowKit
theorem rows_ofE {α : Type} [Inhabited α] {n : Nat} {f : Nat → List IV} (g : α → List IV) (Q : α → Prop) (h : ∀ i, i < n → ∃ c, IVEs (f i) (g c) ∧ Q c) : ∃ l : List α, l.length = n ∧ (∀ c ∈ l, Q c) ∧ ∀ i, i < n → IVEs (f i) (g (l.getD i default)) := by
 induction n with
 | zero => exact ⟨[], rfl, fun c hc => by (cases hc), fun i hi => by omega⟩
 | succ n ih =>
   obtain ⟨l, h1, h2, h3⟩ := ih fun i hi => h i (by omega)
   obtain ⟨c, e, q⟩ := h n (by omega)
   refine ⟨l ++ [c], by simp [h1], fun x hx => ?_, fun i hi => ?_⟩
   ·rcases List.mem_append.1 hx with hx | hx
    ·exact h2 x hx
    ·simp only [List.mem_singleton] at hx
     subst hx
     exact q
   ·by_cases hi' : i < n
    ·have := h3 i hi'
     rw [List.getD_eq_getElem?_getD] at this ⊢
     rw [List.getElem?_append_left (by omega)]
     exact this
    ·have : i = n := by omega
     subst this
     have e2 : (l ++ [c]).getD i default = c := by simp [List.getD, ← h1]
     rw [e2]
     exact e
theorem R_rowsE {ι : Imm} {sz n : Nat} {f f' : Nat → List IV} {v : Value} (h : IV.R ι (.sl sz n f) v) (hf : ∀ i, i < n → IVEs (f i) (f' i)) : IV.R ι (.sl sz n f') v := by
 have := (AVE.sl hf).run (fun _ => none) ι v (by simpa only [AV.R] using h)
 simpa only [AV.R] using this
theorem sh_recs {ι : Imm} {x : IV} {v : Value} (h : (AT.sl [.int .u64, .int .i64, .bytes, .bytes, .int .u32, .int .u32]).Sh x) (hr : IV.R ι x v) : ∃ l : List Rec, (l.length ≤ 9223372036854775807 ∧ ∀ r ∈ l, r.W) ∧ IV.R ι (.sl 6 l.length (recF l)) v := by
 simp only [AT.Sh] at h
 obtain ⟨n, f, rfl, hn, hf⟩ := h
 obtain ⟨l, h1, h2, h3⟩ := rows_ofE (f := f) (n := n) recI Rec.W (fun i hi => by
  have hfi := hf i hi
  simp only [AT.Shs, AT.Sh] at hfi
  obtain ⟨_, _, e, ⟨a, rfl, ha⟩, _, _, rfl, ⟨b, rfl, _⟩, _, _, rfl, ⟨c, rfl, hc⟩, _, _, rfl, ⟨d, rfl, hd⟩, _, _, rfl, ⟨g, rfl, hg⟩, _, _, rfl, ⟨k, rfl, hk⟩, rfl⟩ := hfi
  have ha := bounds_u64 ha
  have hg := bounds_u32 hg
  have hk := bounds_u32 hk
  refine ⟨⟨a.toNat, b, c, d, g.toNat, k.toNat⟩, ?_, hc, hd⟩
  rw [e]
  show IVEs _ [IV.v (.int .u64 (a.toNat : Int)), IV.v (.int .i64 b), .bs c, .bs d, IV.v (.int .u32 (g.toNat : Int)), IV.v (.int .u32 (k.toNat : Int))]
  rw [Int.toNat_of_nonneg (by omega), Int.toNat_of_nonneg (by omega), Int.toNat_of_nonneg (by omega)]
  exact IVEs.refl _)
 exact ⟨l, ⟨by rw [h1]; exact hn, h2⟩, by rw [h1]; exact R_rowsE hr h3⟩
theorem sh_u16 {ι : Imm} {x : IV} {v : Value} (h : (AT.int .u16).Sh x) (hr : IV.R ι x v) : ∃ n : Nat, n ≤ 65535 ∧ IV.R ι (.v (.int .u16 (n : Int))) v := by
 simp only [AT.Sh] at h
 obtain ⟨z, rfl, hz⟩ := h
 have hz := bounds_u16 hz
 exact ⟨z.toNat, by omega, by rw [Int.toNat_of_nonneg (by omega)]; exact hr⟩
end Go.Proofs.YtnkobcokjalmoaaGreatDoor.Ax
