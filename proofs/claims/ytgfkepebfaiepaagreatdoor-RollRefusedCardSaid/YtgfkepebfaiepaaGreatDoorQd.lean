/-
  Chapter 13: the law's walk.
-/
import Derived.Test.YtgfkepebfaiepaaGreatDoorQx
import Derived.Test.YtgfkepebfaiepaaGreatDoorQc
import Derived.Test.YtgfkepebfaiepaaGreatDoorQu
import Derived.Test.YtgfkepebfaiepaaGreatDoorQy
import Derived.LaidHandle
import Derived.LaidSub
import Derived.LaidLaws
import Derived.OpenShut
import Derived.FnData
namespace Go.Proofs.YtgfkepebfaiepaaGreatDoor.Ax
open Go.RowKit
set_option maxRecDepth 100000
noncomputable def cfgWs (N b : Nat) : Cfg := { P := Go.Proofs.Tryz.prog, T := tt, cuts := [3010], wr := false, N := N, pure := [75, 74], base := b, frz := fun op => match op with | .makeFunc .. => true | .convert .. => true | .makeSlice .. => true | .buildSlice t .. => Nat.beq t 109 | _ => false }
theorem cfgWsOk (N b : Nat) : (cfgWs N b).Ok := ⟨ttOk, ttBytes, by kernel_rfl⟩
noncomputable def cfgWt (N b : Nat) : Cfg := { P := Go.Proofs.Tryz.prog, T := tt, wr := false, N := N, pure := [75, 74], base := b, frz := fun op => match op with | .makeFunc .. => true | .convert .. => true | .makeSlice .. => true | .buildSlice t .. => Nat.beq t 109 | _ => false }
theorem cfgWtOk (N b : Nat) : (cfgWt N b).Ok := ⟨ttOk, ttBytes, by kernel_rfl⟩
def wxS (vs : Nat → VM) : Nat → AH
 | 0 => rlC ⟨4096, [], 1, 0⟩ [] (-1) (VM.new 1073741824)
 | 5 => rlO wkG2 wkE2 (-1) (vs 5) (segA 2 [wxR 4] 0)
 | i => rlO wkG1 [.add 1] (-1) (vs i) (segA 1 (wxL i) 0)
set_option maxHeartbeats 4000000 in
theorem wakes13_ok : AFn Go.Proofs.Tryz.prog 19 [] ⟨0, []⟩ (fun _ : Unit => AV.bool true) (fun _ => ⟨0, []⟩) := by
 obtain ⟨vs, b1, b2, b4, b5, b6⟩ := wk_chain
 refine ACall.fin ?_
 refine ACall.walk (C := cfgWs 110 0) (cfgWsOk _ _) sch19 (fn := Go.Proofs.Tryz.f19) (by kernel_rfl) (by kernel_rfl) rfl (by kernel_rfl) (by kernel_rfl) rfl rfl ?_
 refine goA ?_
 refine AFn.useA [] (new_fs 1073741824 (by decide)) fun _ => ?_
 refine goA ?_
 refine AFn.useA [0] (rollNew_ok 4096 1 (by decide) (VM.new 1073741824)) fun _ => ?_
 refine goA ?_
 refine AWP.loop (X := { i : Nat // i ≤ 5 }) (fun x => [(3, .ptr 1 0), (5, .ptr 3 0), (26, AV.int .i64 x.1)]) (fun x => wxS vs x.1) (fun x => 5 - x.1) (⟨0, Nat.zero_le _⟩) ?_ fun x => AWP.go (S := sch19) (cfgWsOk _ _) (.of_eq (by kernel_rfl)) ?_
 ·refine (HEnt.ent (HEnt.addNil 105 5 (edF []))).trans ?_
  exact Ent.mk' (H' := rlC ⟨4096, [], 1, 0⟩ [] (-1) (VM.new 1073741824)) [some 0, some 1, some 2, some 3, some 4] (by kernel_rfl) ⟨AVE.refl _, AVE.refl _, AVE.refl _, trivial⟩ ⟨⟨_, rfl, ChE.refl _⟩, ⟨_, rfl, ChE.refl _⟩, ⟨_, rfl, ChE.refl _⟩, ⟨_, rfl, ChE.cells (by exact ⟨AVE.nil _ _, AVE.refl _, rfl⟩)⟩, ⟨_, rfl, ChE.refl _⟩, trivial⟩
 ·obtain ⟨i, hi⟩ := x
  dsimp only
  have hc : i = 0 ∨ (1 ≤ i ∧ i ≤ 3) ∨ i = 4 ∨ i = 5 := by omega
  rcases hc with rfl | hc | rfl | rfl
  ·refine goA ?_
   apply AWP.aheadX (X := Unit) (C := cfgWt 110 0) (fun _ => [(3, .ptr 1 0), (5, .ptr 3 0), (6, AV.int .i64 0), (26, AV.int .i64 0), (7, .ptr 6 0), (8, AV.int .i64 0)]) (fun _ => ⟨7, [(0, .sem (fsV (vs (0 + 1)))), (1, rollP wkG1 2 (.ptr 5 0)), (2, sealsP wkG1), (3, earP 4 [.add 1] (-1)), (4, hdP [.add 1]), (5, segP (segA 1 (wxL (0 + 1)) 0)), (6, boxL 1 (16))]⟩)
   ·intro key
    repeat' (refine And.intro ?_ ?_ <;> (refine goA ?_))
    all_goals
     refine ACall.argsE [.ptr 1 0, earA, recA (wxR 0)] ⟨AVE.refl _, AVE.refl _, AVE.aggE ⟨AVE.int rfl, AVE.refl _, AVE.refl _, AVE.refl _, AVE.refl _, AVE.refl _, rfl⟩, rfl⟩ ?_
     refine AFn.useA [0, 1, 2, 3, 4] (b1) fun _ => ?_
     refine goA ?_
     refine ⟨(AWP.of_ent (C := cfgWt 110 0) ?_ (key ())).run⟩
     first | (change Ent _ _ _ ⟨_, (0, _) :: _⟩ _ _; exact Ent.mk' [some 0, some 1, some 2, some 3, some 6, some 5, some 7] (by kernel_rfl) ⟨AVE.refl _, AVE.refl _, AVE.refl _, AVE.refl _, AVE.refl _, AVE.refl _, trivial⟩ subC) | exact Ent.mk' [some 0, some 1, some 2, some 3, some 7, some 6, some 5] (by kernel_rfl) ⟨AVE.refl _, AVE.refl _, AVE.refl _, AVE.refl _, AVE.refl _, AVE.refl _, trivial⟩ subC
   ·intro _
    refine AWP.go (S := sch19) (cfgWtOk _ _) (.of_eq (by kernel_rfl)) ?_
    refine goA ?_
    refine AWP.go (S := []) (cfgWsOk _ _) (.of_eq (by kernel_rfl)) ?_
    refine goA ?_
    refine ⟨⟨1, by decide⟩, ?_, (by decide : 5 - 1 < 5 - 0)⟩
    show Ent _ _ _ _ _ (rlO wkG1 [.add 1] (-1) (vs 1) (segA 1 (wxL 1) 0))
    exact Ent.mkA [some 0, some 1, some 2, some 3, some 4, some 5]
  ·have e : wxS vs i = rlO wkG1 [.add 1] (-1) (vs i) (segA 1 (wxL i) 0) := by
    have : i = 1 ∨ i = 2 ∨ i = 3 := by omega
    rcases this with rfl | rfl | rfl <;> rfl
   have bi := b2 i hc.1 hc.2
   rw [e]
   refine goA ?_
   refine ifdA (fun h0 => ?_) (fun h0 => ?_) <;> (try dsimp only at h0)
   rotate_left
   ·exfalso; omega
   refine goA ?_
   apply AWP.aheadX (X := Unit) (C := cfgWt 110 0) (fun _ => [(3, .ptr 1 0), (5, .ptr 3 0), (6, AV.int .i64 i), (26, AV.int .i64 i), (7, .ptr 6 0), (8, AV.int .i64 0)]) (fun _ => ⟨7, [(0, .sem (fsV (vs (i + 1)))), (1, rollP wkG1 2 (.ptr 5 0)), (2, sealsP wkG1), (3, earP 4 [.add 1] (-1)), (4, hdP [.add 1]), (5, segP (segA 1 (wxL (i + 1)) 0)), (6, boxL 1 (16 + 1000 * i))]⟩)
   ·intro key
    repeat' (refine And.intro ?_ ?_ <;> (refine goA ?_))
    all_goals
     refine ACall.argsE [.ptr 1 0, earA, recA (wxR i)] ⟨AVE.refl _, AVE.refl _, AVE.aggE ⟨AVE.int rfl, AVE.refl _, AVE.refl _, AVE.refl _, AVE.refl _, AVE.refl _, rfl⟩, rfl⟩ ?_
     refine AFn.useA [0, 1, 2, 3, 4, 5] (bi) fun _ => ?_
     refine goA ?_
     refine ⟨(AWP.of_ent (C := cfgWt 110 0) ?_ (key ())).run⟩
     exact Ent.mk' [some 0, some 1, some 2, some 3, some 4, some 5, some 6] (by kernel_rfl) ⟨AVE.refl _, AVE.refl _, AVE.refl _, AVE.refl _, AVE.refl _, AVE.refl _, trivial⟩ subC
   ·intro _
    refine AWP.go (S := sch19) (cfgWtOk _ _) (.of_eq (by kernel_rfl)) ?_
    refine goA ?_
    refine ifdA (fun q => ?_) (fun q => ?_) <;> (try dsimp only at q)
    ·have : i = 3 := by omega
     subst this
     refine goA ?_
     refine AFn.useA [4] (kinds_ok [.add 1] (by decide) (fun e he => by rw [List.mem_singleton.1 he]; exact ⟨.inl rfl, by decide, by decide⟩)) fun _ => ?_
     refine goA ?_
     refine ACall.argsE [.row 7 1 0 1, .iv (iRow (kindsOf [.add 1]))] ⟨AVE.refl _, AVE.sl fun j hj => (by have : j = 0 := Nat.lt_one_iff.1 hj; subst this; exact IVEs.refl _), rfl⟩ ?_
     refine AFn.useA [7] (eqInts_ok (kindsOf [.add 1]) (by decide)) fun _ => ?_
     refine goA ?_
     refine AWP.go (S := []) (cfgWsOk _ _) (.of_eq (by kernel_rfl)) ?_
     refine goA ?_
     refine ⟨⟨4, by decide⟩, ?_, (by decide : 5 - 4 < 5 - 3)⟩
     show Ent _ _ _ _ _ (rlO wkG1 [.add 1] (-1) (vs 4) (segA 1 (wxL 4) 0))
     exact Ent.mkA [some 0, some 1, some 2, some 3, some 4, some 5]
    ·refine goA ?_
     refine ifdA (fun q2 => ?_) (fun q2 => ?_) <;> (try dsimp only at q2)
     ·exfalso; omega
     refine goA ?_
     refine AWP.go (S := []) (cfgWsOk _ _) (.of_eq (by kernel_rfl)) ?_
     refine goA ?_
     refine ⟨⟨i + 1, by omega⟩, ?_, by show 5 - (i + 1) < 5 - i; omega⟩
     have e2 : wxS vs (i + 1) = rlO wkG1 [.add 1] (-1) (vs (i + 1)) (segA 1 (wxL (i + 1)) 0) := by
      have : i = 1 ∨ i = 2 := by omega
      rcases this with rfl | rfl <;> rfl
     rw [e2]
     exact Ent.mkA [some 0, some 1, some 2, some 3, some 4, some 5]
  ·refine goA ?_
   apply AWP.aheadX (X := Unit) (C := cfgWt 110 0) (fun _ => [(3, .ptr 1 0), (5, .ptr 3 0), (6, AV.int .i64 4), (26, AV.int .i64 4), (7, .ptr 6 0), (8, AV.int .i64 0)]) (fun _ => ⟨7, [(0, .sem (fsV (vs 5))), (1, rollP wkG2 2 (.ptr 5 0)), (2, sealsP wkG2), (3, earP 4 wkE2 (-1)), (4, hdP wkE2), (5, segP (segA 2 [wxR 4] 0)), (6, boxL 2 16)]⟩)
   ·intro key
    repeat' (refine And.intro ?_ ?_ <;> (refine goA ?_))
    all_goals
     refine ACall.argsE [.ptr 1 0, earA, recA (wxR 4)] ⟨AVE.refl _, AVE.refl _, AVE.aggE ⟨AVE.int rfl, AVE.refl _, AVE.refl _, AVE.refl _, AVE.refl _, AVE.refl _, rfl⟩, rfl⟩ ?_
     refine AFn.useA [0, 1, 2, 3, 4, 5] (b4) fun _ => ?_
     refine goA ?_
     refine ⟨(AWP.of_ent (C := cfgWt 110 0) ?_ (key ())).run⟩
     first | (change Ent _ _ _ ⟨_, (0, _) :: _⟩ _ _; exact Ent.mk' [some 0, some 1, some 6, some 3, some 8, some 7, some 9] (by kernel_rfl) ⟨AVE.refl _, AVE.refl _, AVE.refl _, AVE.refl _, AVE.refl _, AVE.refl _, trivial⟩ subC) | exact Ent.mk' [some 0, some 1, some 7, some 3, some 9, some 8, some 6] (by kernel_rfl) ⟨AVE.refl _, AVE.refl _, AVE.refl _, AVE.refl _, AVE.refl _, AVE.refl _, trivial⟩ subC
   ·intro _
    refine AWP.go (S := sch19) (cfgWtOk _ _) (.of_eq (by kernel_rfl)) ?_
    refine goA ?_
    refine AWP.go (S := []) (cfgWsOk _ _) (.of_eq (by kernel_rfl)) ?_
    refine goA ?_
    refine ⟨⟨5, by decide⟩, ?_, (by decide : 5 - 5 < 5 - 4)⟩
    show Ent _ _ _ _ _ (rlO wkG2 wkE2 (-1) (vs 5) (segA 2 [wxR 4] 0))
    exact Ent.mkA [some 0, some 1, some 2, some 3, some 4, some 5]
  ·refine goA ?_
   refine AFn.useA [0, 1, 2, 3, 4, 5] (b5) fun _ => ?_
   refine goA ?_
   refine ACall.argsE [.ptr 1 0, earA, recA wxD] ⟨AVE.refl _, AVE.refl _, AVE.aggE ⟨AVE.refl _, AVE.refl _, AVE.refl _, AVE.nilBs, AVE.refl _, AVE.refl _, rfl⟩, rfl⟩ ?_
   refine AFn.useA [0, 1, 6, 3, 7] (b6) fun _ => ?_
   refine goA ?_
   refine AFn.useA [10] (kinds_ok wkE4 (by decide) (fun e he => by
    unfold wkE4 at he
    simp only [List.mem_cons, List.not_mem_nil, or_false] at he
    rcases he with rfl | rfl | rfl | rfl | rfl
    ·exact ⟨.inl rfl, by decide, by decide⟩
    ·exact ⟨.inr rfl, by decide, by decide⟩
    ·exact ⟨.inl rfl, by decide, by decide⟩
    ·exact ⟨.inr rfl, by decide, by decide⟩
    ·exact ⟨.inl rfl, by decide, by decide⟩)) fun _ => ?_
   refine goA ?_
   refine ACall.argsE [.row 12 1 0 5, .iv (iRow (kindsOf wkE4))] ⟨AVE.refl _, AVE.sl fun j hj => ?_, rfl⟩ ?_
   ·have : j = 0 ∨ j = 1 ∨ j = 2 ∨ j = 3 ∨ j = 4 := by omega
    rcases this with rfl | rfl | rfl | rfl | rfl <;> exact IVEs.refl _
   refine AFn.useA [12] (eqInts_ok (kindsOf wkE4) (by decide)) fun _ => ?_
   refine goA ?_
   refine ⟨_, _, Ent.mk' (e' := [(0, AV.bool true)]) (H' := ⟨0, []⟩) [] (by kernel_rfl) ?_ ?_, (), rfl, rfl⟩
   ·exact ⟨AVE.bool (decide_eq_true (show ((wxL 4).length : Int) = 4 by rw [wxL_len]; rfl)), trivial⟩
   ·trivial
end Go.Proofs.YtgfkepebfaiepaaGreatDoor.Ax

namespace Go.Proofs.YtgfkepebfaiepaaGreatDoor.Ax
open Go.RowKit
set_option maxRecDepth 100000
theorem sum_perm {l m : List Nat} (h : l.Perm m) : l.sum = m.sum := by
 induction h with
 | nil => rfl
 | cons x _ ih => simp only [List.sum_cons, ih]
 | swap x y l => simp only [List.sum_cons]; omega
 | trans _ _ h1 h2 => exact h1.trans h2
theorem used_now {v : VM} (hnd : (v.fd.now.map (·.1)).Nodup) : v.used = (v.fd.now.map fun p => fsz v.fs p.2).sum := by
 have h1 : (sortS (v.fd.now.map (·.1))).Perm (v.fd.now.map (·.1)) := List.mergeSort_perm _ _
 unfold VM.used lsN
 rw [List.map_map, sum_perm (h1.map _), List.map_map]
 congr 1
 refine List.map_congr_left fun p hp => ?_
 simp only [Function.comp, afind_of_mem hnd hp, Option.getD_some]
theorem fsz_of {l : List (Nat × FI)} {n : Nat} {f : FI} (h : ffind l n = some f) : fsz l n = f.now.length := by
 unfold fsz
 rw [h]
theorem sum_one {α : Type} {g h : α → Nat} {a b : Nat} : ∀ {l : List α} {p : α}, p ∈ l → l.Nodup → g p = a → h p = b → (∀ q ∈ l, q ≠ p → h q = g q) → (l.map h).sum + a = (l.map g).sum + b
 | q :: t, p, hm, hn, h1, h2, h3 => by
   rw [List.nodup_cons] at hn
   simp only [List.map_cons, List.sum_cons]
   by_cases e : q = p
   ·subst e
    have : t.map h = t.map g := List.map_congr_left fun r hr => h3 r (List.mem_cons_of_mem _ hr) fun e => hn.1 (e ▸ hr)
    rw [this, h1, h2]
    omega
   ·have hpt : p ∈ t := by
     rcases List.mem_cons.1 hm with e2 | e2
     ·exact absurd e2.symm e
     ·exact e2
    have ih := sum_one (l := t) hpt hn.2 h1 h2 fun r hr hne => h3 r (List.mem_cons_of_mem _ hr) hne
    rw [h3 q (List.mem_cons_self ..) e]
    omega
theorem nodup_of_keys {l : List (List UInt8 × Nat)} (h : (l.map (·.1)).Nodup) : l.Nodup := by
 induction l with
 | nil => exact List.nodup_nil
 | cons p t ih =>
   rw [List.map_cons, List.nodup_cons] at h
   rw [List.nodup_cons]
   exact ⟨fun hp => h.1 (List.mem_map_of_mem hp), ih h.2⟩
section
variable {n B k Q : Nat} {v : VM}
theorem used_withN (ok : v.Ok n B k) (up : v.Up Q) {x : List UInt8} {i : Nat} {f : FI} (hm : mayB x = true) (hx : afind v.fd.now x = some i) (hf : ffind v.fs i = some f) (d : VM → FI → FI) :
 (v.stepV (withV x d)).used + f.now.length = v.used + (d v.tick f).now.length ∧ (v.stepV (withV x d)).fd = v.fd ∧ ffind (v.stepV (withV x d)).fs i = some (d v.tick f) := by
 have h0 : v.tick.findE x = 0 := findE_yes hm (show afind v.tick.fd.now x = some i from hx)
 have ef : v.tick.file x = f := file_of (v := v.tick) hx hf
 have en : v.tick.fd.findN x = i := by
  show (afind v.fd.now x).getD 0 = i
  rw [hx]
  rfl
 have ew : withV x d v.tick = { v.tick with fs := fset v.fs i (d v.tick f) } := by
  unfold withV
  rw [if_pos h0, en, ef]
  rfl
 have hfd : (v.stepV (withV x d)).fd = v.fd := by
  rw [stepV_on up.off up.ne, ew]
  rfl
 have key : ∀ j, j ∈ v.fd.live → ffind (v.stepV (withV x d)).fs j = if j = i then some (d v.tick f) else ffind v.fs j := fun j hj => by
  rw [stepV_on up.off up.ne, ew]
  show ffind ((fset v.fs i (d v.tick f)).filter fun p => decide (p.1 ∈ v.fd.live)) j = _
  rw [ffind_filter (fun y => decide (y ∈ v.fd.live)), if_pos (decide_eq_true hj), ffind_fset]
  by_cases e : j = i
  ·rw [if_pos ⟨e, by rw [hf]; rfl⟩, if_pos e]
  ·rw [if_neg fun h => e h.1, if_neg e]
 have hk := ok.fd.now.1
 have hmem := afind_mem hx
 have hi2 : ffind (v.stepV (withV x d)).fs i = some (d v.tick f) := by rw [key i (ok.liveNow _ hmem), if_pos rfl]
 refine ⟨?_, hfd, hi2⟩
 rw [used_now (v := v) hk.nd, used_now (v := v.stepV (withV x d)) (by rw [hfd]; exact hk.nd), hfd]
 refine sum_one (p := (x, i)) hmem (nodup_of_keys hk.nd) (fsz_of hf) (fsz_of hi2) fun q hq hne => ?_
 have hqi : q.2 ≠ i := fun e => hne (hk.inj q hq (x, i) hmem e)
 unfold fsz
 rw [key q.2 (ok.liveNow q hq), if_neg hqi]
theorem used_withF (ok : v.Ok n B k) (up : v.Up Q) {x : List UInt8} {f : FI} (h : v.Has x f) (d : VM → FI → FI) : (v.stepV (withV x d)).used + f.now.length = v.used + (d v.tick f).now.length := by
 obtain ⟨hm, i, hi, hf⟩ := h
 exact (used_withN ok up hm hi.now hf d).1
theorem used_syncDir (ok : v.Ok n B k) (up : v.Up Q) : v.syncDir.used = v.used := by
 have ok1 := ok.syncDir
 have e1 : v.syncDir = (v.tick.syncDir1).clean := stepV_on up.off up.ne _
 have hnow : v.syncDir.fd.now = v.fd.now := by rw [e1]; rfl
 rw [used_now ok1.fd.now.1.nd, used_now ok.fd.now.1.nd, hnow]
 congr 1
 refine List.map_congr_left fun p hp => ?_
 have hl : p.2 ∈ v.syncDir.fd.live := ok1.liveNow p (by rw [hnow]; exact hp)
 unfold fsz
 rw [e1] at hl ⊢
 show (match ffind (v.fs.filter fun p => decide (p.1 ∈ v.fd.synced.live)) p.2 with
  | some f => f.now.length
  | none => 0) = _
 rw [ffind_filter (fun y => decide (y ∈ v.fd.synced.live)), if_pos (decide_eq_true (show p.2 ∈ v.fd.synced.live from hl))]
 cases ffind v.fs p.2 <;> rfl
theorem used_sync (ok : v.Ok n B k) (up : v.Up Q) {x : List UInt8} {f : FI} (h : v.Has x f) : (v.sync x).used = v.used := by
 have := used_withF ok up h (fun _ f => ⟨f.now, f.now, []⟩)
 have this : (v.sync x).used + f.now.length = v.used + f.now.length := this
 omega
theorem tick_used (v : VM) : v.tick.used = v.used := rfl
theorem VM.Has.refuse (ok : v.Ok n B k) (up : v.Up Q) {x : List UInt8} {f : FI} (h : v.Has x f) {c : List UInt8} (hr : Q < v.used + c.length) :
 v.appendE x c = 21 ∧ (v.append x c).Has x f ∧ (v.append x c).Up Q ∧ (v.append x c).fd = v.fd ∧ ∀ y g, y ≠ x → v.Has y g → (v.append x c).Has y g := by
 obtain ⟨h1, h2, h3, h4, h5⟩ := h.withF ok up (VM.appE c) (VM.appD c)
 have h0 : VM.appE c v.tick f = 21 := by
  unfold VM.appE
  rw [show v.tick.quota = (Q : Int) from up.quota, tick_used, if_pos (by omega)]
 have e : VM.appD c v.tick f = f := if_neg (by rw [h0]; decide)
 rw [e] at h2
 exact ⟨h1.trans h0, h2, h3, h4, h5⟩
theorem appE_exact (up : v.Up Q) {c : List UInt8} (hr : v.used + c.length ≤ Q) (f : FI) : VM.appE c v.tick f = 0 := by
 unfold VM.appE
 rw [show v.tick.quota = (Q : Int) from up.quota, tick_used, if_neg (by omega)]
end
end Go.Proofs.YtgfkepebfaiepaaGreatDoor.Ax

namespace Go.Proofs.YtgfkepebfaiepaaGreatDoor.Ax
open Go.RowKit
set_option maxRecDepth 100000
theorem aput_new {β : Type} {l : List (List UInt8 × β)} {s : List UInt8} {n : β} (h : afind l s = none) : (aput l s n).map (·.1) = l.map (·.1) ++ [s] ∧ aput l s n = l ++ [(s, n)] := by
 induction l with
 | nil => exact ⟨rfl, rfl⟩
 | cons p t ih =>
   have hp : p.1 ≠ s := fun e => by
    have := afind_none.1 h
    exact this (by rw [← e]; exact List.mem_map_of_mem (List.mem_cons_self ..))
   have ht : afind t s = none := by
    rw [afind_none] at h ⊢
    exact fun hm => h (List.mem_cons_of_mem _ hm)
   obtain ⟨h1, h2⟩ := ih ht
   unfold aput
   rw [if_neg hp]
   exact ⟨by rw [List.map_cons, h1]; rfl, by rw [h2]; rfl⟩
section
variable {n B k Q : Nat} {v : VM}
theorem create_used (h : v.Ok n B k) (up : v.Up Q) {x : List UInt8} (hm : mayB x = true) (hno : afind v.fd.now x = none) (h256 : v.fd.now.length < 256) : (v.create x).used = v.used ∧ afind (v.create x).fd.now x = some (v.fd.last + 1) ∧ ffind (v.create x).fs (v.fd.last + 1) = some ⟨[], [], []⟩ := by
 have cf : v.fd.createE x = 0 := by
  unfold FD.createE
  rw [hm, hno, decide_eq_false (show ¬ 256 ≤ v.fd.now.length by omega)]
  rfl
 have ok1 := h.create x
 have e1 : v.create x = (v.tick.create1 x).clean := stepV_on up.off up.ne _
 have e2 : v.tick.create1 x = { v.tick with fd := v.tick.fd.create x, fs := v.tick.fs ++ [(v.tick.fd.last + 1, ⟨[], [], []⟩)] } := if_pos cf
 have fd1 : (v.create x).fd = FD.did ⟨v.fd.safe, v.fd.now, v.fd.ds, v.fd.last + 1⟩ (.mk x (v.fd.last + 1)) := by
  rw [e1, e2]
  exact if_pos cf
 have now1 : (v.create x).fd.now = v.fd.now ++ [(x, v.fd.last + 1)] := by
  rw [fd1]
  exact (aput_new hno).2
 have none1 : ffind v.fs (v.fd.last + 1) = none := by
  cases hf : ffind v.fs (v.fd.last + 1) with
  | none => rfl
  | some f =>
    have : v.fd.last + 1 ≤ v.fd.last := h.le _ (ffind_mem hf)
    omega
 have fs1 : ∀ j, j ∈ (v.create x).fd.live → ffind (v.create x).fs j = ffind (v.fs ++ [(v.fd.last + 1, (⟨[], [], []⟩ : FI))]) j := fun j hl => by
  rw [e1, e2] at hl ⊢
  show ffind ((v.fs ++ [(v.fd.last + 1, (⟨[], [], []⟩ : FI))]).filter fun p => decide (p.1 ∈ (v.fd.create x).live)) j = _
  rw [ffind_filter (fun y => decide (y ∈ (v.fd.create x).live)), if_pos (decide_eq_true (show j ∈ (v.fd.create x).live from hl))]
 have hnd1 := ok1.fd.now.1.nd
 have hnd := h.fd.now.1.nd
 have at1 : afind (v.create x).fd.now x = some (v.fd.last + 1) := by
  rw [fd1]
  show afind (aput v.fd.now x (v.fd.last + 1)) x = _
  rw [afind_aput, if_pos rfl]
 have hl1 : v.fd.last + 1 ∈ (v.create x).fd.live := ok1.liveNow (x, v.fd.last + 1) (by rw [now1]; exact List.mem_append_right _ (List.mem_singleton.2 rfl))
 have f1 : ffind (v.create x).fs (v.fd.last + 1) = some ⟨[], [], []⟩ := by
  rw [fs1 _ hl1, ffind_append, none1]
  simp
 refine ⟨?_, at1, f1⟩
 rw [used_now hnd1, used_now hnd, now1, List.map_append, List.sum_append]
 have a1 : (v.fd.now.map fun p => fsz (v.create x).fs p.2) = v.fd.now.map fun p => fsz v.fs p.2 := List.map_congr_left fun p hp => by
  have hl : p.2 ∈ (v.create x).fd.live := ok1.liveNow p (by rw [now1]; exact List.mem_append_left _ hp)
  have hs := h.fd.now.2 p hp
  unfold fsz
  rw [fs1 _ hl, ffind_append]
  cases hf : ffind v.fs p.2 with
  | none => rw [hf] at hs; cases hs
  | some f => rfl
 rw [a1]
 show _ + (fsz (v.create x).fs (v.fd.last + 1) + 0) = _
 rw [show fsz (v.create x).fs (v.fd.last + 1) = 0 from (fsz_of f1).trans rfl]
 rfl
theorem made_used (h : v.Ok n B k) (up : v.Up Q) {x b : List UInt8} (hm : mayB x = true) (hno : afind v.fd.now x = none) (h256 : v.fd.now.length < 256) (hr : v.used + b.length ≤ Q) : ((((v.create x).append x b).sync x).syncDir).used = v.used + b.length := by
 have ok1 := h.create x
 have up1 : (v.create x).Up Q := up.step (up.tick.create1 _)
 obtain ⟨hu, h1, h2⟩ := create_used h up hm hno h256
 obtain ⟨a1, a2, a3⟩ := used_withN ok1 up1 hm h1 h2 (VM.appD b)
 have a1 : ((v.create x).append x b).used + 0 = (v.create x).used + (VM.appD b (v.create x).tick ⟨[], [], []⟩).now.length := a1
 have e0 : VM.appE b (v.create x).tick ⟨[], [], []⟩ = 0 := appE_exact (v := v.create x) up1 (by rw [hu]; exact hr) _
 have e1 : VM.appD b (v.create x).tick ⟨[], [], []⟩ = FI.app ⟨[], [], []⟩ b := if_pos e0
 have e2 : (FI.app ⟨[], [], []⟩ b).now = b := by rw [FI.app_now]; rfl
 rw [e1, e2, hu] at a1
 have ok2 := ok1.append x b
 have up2 : ((v.create x).append x b).Up Q := up1.step (up1.tick.withV _ _)
 have f2 : ((v.create x).append x b).fd = (v.create x).fd := a2
 obtain ⟨b1, b2, b3⟩ := used_withN ok2 up2 hm (by rw [f2]; exact h1) (show ffind ((v.create x).append x b).fs (v.fd.last + 1) = _ from a3) (fun _ f => ⟨f.now, f.now, []⟩)
 have b1 : (((v.create x).append x b).sync x).used + (VM.appD b (v.create x).tick ⟨[], [], []⟩).now.length = ((v.create x).append x b).used + (VM.appD b (v.create x).tick ⟨[], [], []⟩).now.length := b1
 rw [used_syncDir (ok2.sync x) (up2.step (up2.tick.withV _ _))]
 omega
theorem made_room (h : v.Ok n B k) (up : v.Up Q) {x b : List UInt8} (hm : mayB x = true) (hno : afind v.fd.now x = none) (h256 : v.fd.now.length < 256) (hr : v.used + b.length ≤ Q) : VM.appE b (v.create x).tick ⟨[], [], []⟩ = 0 :=
 appE_exact (v := v.create x) (up.step (up.tick.create1 _)) (by rw [(create_used h up hm hno h256).1]; exact hr) _
end
end Go.Proofs.YtgfkepebfaiepaaGreatDoor.Ax

namespace Go.Proofs.YtgfkepebfaiepaaGreatDoor.Ax
open Go.RowKit
set_option maxRecDepth 100000
def VM.quot (v : VM) (q : Int) : VM := { v with quota := q }
section
variable {n B k : Nat} {v : VM}
theorem used_s (s : SM) (hs : s.At v) (h : v.Ok n B k) (hn : n ≤ 1000) (hB : B ≤ 80000000) (ho : v.off = false) : AFn Go.Proofs.Tryz.prog 22 [.ptr 0 0] s.H (fun _ : Unit => AV.int .i64 (v.used : Int)) (fun _ => s.H) := by
 have hv := hs.val
 subst hv
 have := used_in s hs.nd (h.nok hn).now (fun p hp => by have := (h.files p hp).len; omega)
 rw [show s.off = false from ho] at this
 exact this
theorem fsUsed (h : v.Ok n B k) (hn : n ≤ 1000) (hB : B ≤ 80000000) (ho : v.off = false) : AFn Go.Proofs.Tryz.prog 22 [.ptr 0 0] (fone v) (fun _ : Unit => AV.int .i64 (v.used : Int)) (fun _ => fone v) := AFn.val fun s hs => AFn.shut (AFn.keep hs (used_s s hs h hn hB ho)) rfl rfl (fun _ => ⟨by kernel_rfl, by kernel_rfl⟩) (fun _ => (by repeat' first | exact trivial | refine ⟨rfl, ?_⟩)) (fun _ => rfl)
theorem quota_s (s : SM) (hs : s.At v) (q : Int) (hq : 0 ≤ q ∧ q ≤ 1073741824) : AFn Go.Proofs.Tryz.prog 21 [.ptr 0 0, AV.int .i64 q] s.H (fun _ : { s' : SM // s'.At (v.quot q) } => AV.int .i64 0) (fun s' => s'.1.H) := by
 have hv := hs.val
 refine ACall.fin ?_
 refine ACall.walk (C := cfg 16 4) (cfgOk _ _) [] (fn := Go.Proofs.Tryz.f21) (by kernel_rfl) (by kernel_rfl) rfl (by kernel_rfl) (by kernel_rfl) rfl rfl ?_
 refine goA ?_
 refine AFn.useA [0, 1, 2, 3] (fnone_in s) fun _ => ?_
 refine goA ?_
 refine AFn.useA [] (quotas_ok q) fun _ => ?_
 rw [show quotB q = true from decide_eq_true hq]
 refine goA ?_
 refine ⟨_, _, Ent.mk' (e' := [(0, AV.int .i64 0)]) (H' := SM.H { s with quota := q }) [some 0, some 1, some 2, some 3] (by kernel_rfl) ⟨AVE.refl _, trivial⟩ (by repeat' (first | exact trivial | refine ⟨⟨_, rfl, ChE.refl _⟩, ?_⟩)), ⟨{ s with quota := q }, ⟨?_, hs.nd⟩⟩, rfl, rfl⟩
 rw [← hv]
 rfl
theorem fsQuota (q : Int) (hq : 0 ≤ q ∧ q ≤ 1073741824) : AFn Go.Proofs.Tryz.prog 21 [.ptr 0 0, AV.int .i64 q] (fone v) (fun _ : Unit => AV.int .i64 0) (fun _ => fone (v.quot q)) := AFn.val fun s hs => AFn.shut (quota_s s hs q hq) rfl rfl (fun _ => ⟨by kernel_rfl, by kernel_rfl⟩) (fun _ => (by repeat' first | exact trivial | refine ⟨rfl, ?_⟩)) (fun _ => rfl)
theorem VM.Ok.quot (h : v.Ok n B k) {q : Int} (hq : 0 ≤ q ∧ q ≤ 1073741824) : (v.quot q).Ok n B k := ⟨h.fd, h.ds, h.last, h.nd, h.le, h.files, h.steps, h.fuse, hq⟩
theorem VM.Up.quot {Q : Nat} (h : v.Up Q) (q : Nat) : (v.quot (q : Int)).Up q := ⟨h.off, h.fuse, rfl⟩
theorem quot_used (v : VM) (q : Int) : (v.quot q).used = v.used := rfl
theorem RI.quot {lim Q : Nat} {L : List Rec} {S : List Sg} {next : Nat} (h : RI lim Q n B k L S next v) {q : Nat} (hq : q ≤ 1073741824) : RI lim q n B k L S next (v.quot (q : Int)) :=
 ⟨h.ok.quot ⟨by omega, by omega⟩, h.up.quot q, h.recs, h.asc, h.ids, h.inc, h.size, h.safe, h.names, h.few⟩
end
end Go.Proofs.YtgfkepebfaiepaaGreatDoor.Ax

namespace Go.Proofs.YtgfkepebfaiepaaGreatDoor.Ax
open Go.RowKit
set_option maxRecDepth 100000
section
variable {lim Q n B k : Nat} {L : List Rec} {d S : List Sg} {next : Nat} {v : VM}
theorem RI.refuse {id c : Nat} {l : List Rec} (h : RI lim Q n B k L (d ++ [⟨id, l, c⟩]) next v) {r : Rec} (hu : Q < v.used + r.size) : v.appendE (segName id) r.enc = 21 ∧ RI lim Q (n + 1) (B + r.size) (k + 1) L (d ++ [⟨id, l, c⟩]) next (v.append (segName id) r.enc) := by
 have hm : (⟨id, l, c⟩ : Sg) ∈ d ++ [⟨id, l, c⟩] := by simp
 obtain ⟨hid, hi⟩ := h.ids _ hm
 obtain ⟨hc, f, hf, hs⟩ := h.safe _ hm
 obtain ⟨a1, a2, a3, a4, a5⟩ := hf.refuse h.ok h.up (c := r.enc) (by rw [enc_len]; exact hu)
 refine ⟨a1, ⟨(h.ok.append (segName id) r.enc).more (Nat.le_refl _) (by rw [enc_len]; exact Nat.le_refl _) (Nat.le_refl _), a3, h.recs, h.asc, h.ids, h.inc, h.size, fun p hp => ?_, fun p hp => ?_, ?_⟩⟩
 ·rcases List.mem_append.1 hp with hp2 | hp2
  ·obtain ⟨b1, b2⟩ := h.safe p hp
   have hne := h.idsD p hp2
   exact ⟨b1, b2.other hid (h.ids p hp).1 (by show p.id ≠ id; have : p.id < id := hne; omega) a5⟩
  ·rw [List.mem_singleton.1 hp2]
   exact ⟨hc, f, a2, hs⟩
 ·rw [a4] at hp
  exact h.names p hp
 ·rw [a4]
  exact h.few
theorem RI.madeQ (h : RI lim Q n B k L S next v) (hlim : 16 ≤ lim) (hn : IsId next) (h256 : next ≤ 256) (hu : v.used + 16 ≤ Q) :
 (∀ i, i < 4 → v.crE (segName next) (headB 1 next) i = 0) ∧ RI lim Q (n + 3) (B + 16) (k + 4) L (S ++ [⟨next, [], 0⟩]) (next + 1) (v.cr (segName next) (headB 1 next) 4) := by
 have hf := h.few
 exact h.madeG hlim hn h256 (made_room h.ok h.up (segName_may hn) (h.noName hn) (by omega) (by rw [headB_len]; exact hu))
theorem RI.usedQ (h : RI lim Q n B k L S next v) (hn : IsId next) (h256 : next ≤ 256) (hu : v.used + 16 ≤ Q) : (v.cr (segName next) (headB 1 next) 4).used = v.used + 16 := by
 have hf := h.few
 have := made_used h.ok h.up (b := headB 1 next) (segName_may hn) (h.noName hn) (by omega) (by rw [headB_len]; exact hu)
 rw [headB_len] at this
 exact this
end
end Go.Proofs.YtgfkepebfaiepaaGreatDoor.Ax

namespace Go.Proofs.YtgfkepebfaiepaaGreatDoor.Ax
open Go.RowKit
set_option maxRecDepth 100000
section
variable (g : RG) (hd : List Ed) (left : Int) {v v' : VM} {s s' : SG} {R : RG}
theorem apd2_deaf (h : AFn Go.Proofs.Tryz.prog 85 [.ptr 1 0, earA] (rlC g hd left v) (fun _ : Unit => AV.int .i64 21) (fun _ => rlC R hd left v')) : AFn Go.Proofs.Tryz.prog 84 [.ptr 5 0, .ptr 6 0] ⟨7, [(0, .sem (fsV v)), (1, rollP g 2 AV.nilPtr), (2, sealsP g), (3, earP 4 hd left), (4, hdP hd), (5, boxX), (6, boxT)]⟩ (fun _ : Unit => AV.int .i64 21) (fun _ => ⟨7, [(0, .sem (fsV v')), (1, rollP R 2 AV.nilPtr), (2, sealsP R), (3, earP 4 hd left), (4, hdP hd), (5, boxX), (6, boxT)]⟩) := by
 refine ACall.fin ?_
 refine ACall.walk (C := cfg 6 7) (cfgOk _ _) [] (fn := Go.Proofs.Tryz.f84) (by kernel_rfl) (by kernel_rfl) rfl (by kernel_rfl) (by kernel_rfl) rfl rfl ?_
 refine goA ?_
 refine AFn.useA [0, 1, 2, 3, 4] (h) fun _ => ?_
 refine goA ?_
 refine ⟨_, _, Ent.mk' (e' := [(0, AV.int .i64 21)]) (H' := ⟨7, [(0, .sem (fsV v')), (1, rollP R 2 AV.nilPtr), (2, sealsP R), (3, earP 4 hd left), (4, hdP hd), (5, boxX), (6, boxT)]⟩) [some 0, some 1, some 2, some 3, some 4, some 5, some 6] (by kernel_rfl) ⟨AVE.refl _, trivial⟩ subC, (), rfl, rfl⟩
theorem apd1_deaf (h : AFn Go.Proofs.Tryz.prog 83 [.ptr 1 0, earA] (rlO g hd left v s) (fun _ : Unit => AV.int .i64 21) (fun _ => rlO R hd left v' s')) : AFn Go.Proofs.Tryz.prog 82 [.ptr 6 0, .ptr 7 0] ⟨8, [(0, .sem (fsV v)), (1, rollP g 2 (.ptr 5 0)), (2, sealsP g), (3, earP 4 hd left), (4, hdP hd), (5, segP s), (6, boxX), (7, boxT)]⟩ (fun _ : Unit => AV.int .i64 21) (fun _ => ⟨8, [(0, .sem (fsV v')), (1, rollP R 2 (.ptr 5 0)), (2, sealsP R), (3, earP 4 hd left), (4, hdP hd), (5, segP s'), (6, boxX), (7, boxT)]⟩) := by
 refine ACall.fin ?_
 refine ACall.walk (C := cfg 6 8) (cfgOk _ _) [] (fn := Go.Proofs.Tryz.f82) (by kernel_rfl) (by kernel_rfl) rfl (by kernel_rfl) (by kernel_rfl) rfl rfl ?_
 refine goA ?_
 refine AFn.useA [0, 1, 2, 3, 4, 5] (h) fun _ => ?_
 refine goA ?_
 refine ⟨_, _, Ent.mk' (e' := [(0, AV.int .i64 21)]) (H' := ⟨8, [(0, .sem (fsV v')), (1, rollP R 2 (.ptr 5 0)), (2, sealsP R), (3, earP 4 hd left), (4, hdP hd), (5, segP s'), (6, boxX), (7, boxT)]⟩) [some 0, some 1, some 2, some 3, some 4, some 5, some 6, some 7] (by kernel_rfl) ⟨AVE.refl _, trivial⟩ subC, (), rfl, rfl⟩
variable (hg : g.sealed.length ≤ 1000)
include hg
theorem appBegin_deaf {r : Rec} (hm : r.May) (hq : lastR 0 g.sealed < r.seq) (hB : AFn Go.Proofs.Tryz.prog 85 [.ptr 1 0, earA] (rlC g hd left v) (fun _ : Unit => AV.int .i64 21) (fun _ => rlC R hd left v')) : AFn Go.Proofs.Tryz.prog 23 [.ptr 1 0, earA, recA r] (rlC g hd left v) (fun _ : Unit => .tup [locA 0 0, AV.int .i64 21]) (fun _ => rlC R hd left v') := by
 refine ACall.fin ?_
 refine ACall.walk (C := cfgAq 84 5) (cfgAqOk _ _) sch23 (fn := Go.Proofs.Tryz.f23) (by kernel_rfl) (by kernel_rfl) rfl (by kernel_rfl) (by kernel_rfl) rfl rfl ?_
 refine goA ?_
 refine AFn.useA [0, 1, 2, 3, 4] (noneC_ok g hd left v) fun _ => ?_
 refine goA ?_
 refine AFn.useA [] (recMay_ok r (May.B hm)) fun _ => ?_
 rw [decide_eq_true hm]
 refine goA ?_
 refine AFn.useA [0, 1, 2, 3, 4] (lastC_ok g hd left v hg) fun _ => ?_
 refine goA ?_
 refine ifdA (fun q => ?_) (fun q => ?_) <;> (try dsimp only at q)
 ·exfalso; omega
 refine goA ?_
 refine AWP.loop (X := Unit) (fun x => [(3, .ptr 5 0), (4, .ptr 6 0), (5, .ptr 7 0), (6, .ptr 8 0), (7, .ptr 9 0), (71, .row 10 1 1 2), (72, AV.int .i64 2), (73, AV.int .i64 0)]) (fun x => w2H g hd left r v) (fun x => 0) (()) ?_ fun x => AWP.go (S := sch23) (cfgAqOk _ _) (.of_eq (by kernel_rfl)) ?_
 ·exact Ent.mkA [some 0, some 1, some 2, some 3, some 4, some 5, some 6, some 7, some 8, some 9, some 10]
 ·refine goA ?_
  refine AFn.useA [0, 1, 2, 3, 4, 5, 6] (apd2_deaf g hd left hB) fun _ => ?_
  refine goA ?_
  refine And.intro ?_ ?_ <;> (refine goA ?_)
  all_goals
   refine ⟨_, _, Ent.mk' (e' := [(0, .tup [locA 0 0, AV.int .i64 21])]) (H' := rlC R hd left v') [some 0, some 1, some 2, some 3, some 4] (by kernel_rfl) ?_ ?_, (), rfl, rfl⟩
   ·exact ⟨AVE.refl _, trivial⟩
   ·exact subC
theorem appRest_deaf {r : Rec} (hm : r.May) (hq : lastR s.s.last g.sealed < r.seq) (hfull : g.lim < s.s.size + r.size) (hsz : s.s.size ≤ 16777216) (hR : AFn Go.Proofs.Tryz.prog 83 [.ptr 1 0, earA] (rlO g hd left v s) (fun _ : Unit => AV.int .i64 21) (fun _ => rlO R hd left v' s')) : AFn Go.Proofs.Tryz.prog 23 [.ptr 1 0, earA, recA r] (rlO g hd left v s) (fun _ : Unit => .tup [locA 0 0, AV.int .i64 21]) (fun _ => rlO R hd left v' s') := by
 refine ACall.fin ?_
 refine ACall.walk (C := cfgAq 84 6) (cfgAqOk _ _) sch23 (fn := Go.Proofs.Tryz.f23) (by kernel_rfl) (by kernel_rfl) rfl (by kernel_rfl) (by kernel_rfl) rfl rfl ?_
 refine goA ?_
 refine AFn.useA [0, 1, 2, 3, 4, 5] (noneO_ok g hd left v s) fun _ => ?_
 refine goA ?_
 refine AFn.useA [] (recMay_ok r (May.B hm)) fun _ => ?_
 rw [decide_eq_true hm]
 refine goA ?_
 refine AFn.useA [0, 1, 2, 3, 4, 5] (lastO_ok g hd left v s hg) fun _ => ?_
 refine goA ?_
 refine ifdA (fun q => ?_) (fun q => ?_) <;> (try dsimp only at q)
 ·exfalso; omega
 refine goA ?_
 refine AFn.useA [0, 5] (segSeal_ok s v) fun _ => ?_
 refine goA ?_
 refine AFn.useA [] (recSize_ok r (May.B hm)) fun _ => ?_
 have hs2 := May.size hm
 refine goA ?_
 refine ifdA (fun q2 => ?_) (fun q2 => ?_) <;> (try dsimp only at q2)
 ·exfalso; omega
 refine goA ?_
 refine AWP.loop (X := Unit) (fun x => [(3, .ptr 6 0), (4, .ptr 7 0), (5, .ptr 8 0), (6, .ptr 9 0), (7, .ptr 10 0), (71, .row 11 1 0 3), (72, AV.int .i64 3), (73, AV.int .i64 0)]) (fun x => w1H g hd left r v s 0 0 0) (fun x => 0) (()) ?_ fun x => AWP.go (S := sch23) (cfgAqOk _ _) (.of_eq (by kernel_rfl)) ?_
 ·exact Ent.mkA [some 0, some 1, some 2, some 3, some 4, some 5, some 6, some 7, some 8, some 9, some 10, some 11]
 ·refine goA ?_
  refine AFn.useA [0, 1, 2, 3, 4, 5, 6, 7] (apd1_deaf g hd left hR) fun _ => ?_
  refine goA ?_
  refine And.intro ?_ ?_ <;> (refine goA ?_)
  all_goals
   refine ⟨_, _, Ent.mk' (e' := [(0, .tup [locA 0 0, AV.int .i64 21])]) (H' := rlO R hd left v' s') [some 0, some 1, some 2, some 3, some 4, some 5] (by kernel_rfl) ?_ ?_, (), rfl, rfl⟩
   ·exact ⟨AVE.refl _, trivial⟩
   ·exact subC
end
end Go.Proofs.YtgfkepebfaiepaaGreatDoor.Ax

namespace Go.Proofs.YtgfkepebfaiepaaGreatDoor.Ax
open Go.RowKit
set_option maxRecDepth 100000
section
variable {lim Q n B k : Nat} {L : List Rec} {d S : List Sg} {next : Nat} {v : VM}
theorem madeQ_fn (h : RI lim Q n B k L S next v) (hlim : 16 ≤ lim) (hn : IsId next) (h256 : next ≤ 256) (hu : v.used + 16 ≤ Q) (h1 : n ≤ 400) (h2 : B ≤ 160000) (h3 : k ≤ 10000) : MadeOk next v (segA next [] 0) (v.cr (segName next) (headB 1 next) 4) :=
 segCreate_ok h.ok (by omega) (by omega) (by omega) next hn (h.madeQ hlim hn h256 hu).1
theorem syncQ_fn {id c : Nat} {l : List Rec} (h : RI lim Q n B k L (d ++ [⟨id, l, c⟩]) next v) (h1 : n ≤ 400) (h2 : B ≤ 160000) (h3 : k ≤ 10000) (sf : Nat) : SyncOk (segA id l sf) v (segA id l (lastS l)) (v.sync (segName id)) := by
 have hid := (h.ids ⟨id, l, c⟩ (by simp)).1
 have e := h.sync.1
 have := segSync_ok h.ok (by omega) (by omega) (by omega) (segA id l sf) (show id < 4294967296 by have : IsId id := hid; unfold IsId at this; omega)
 rw [show (segA id l sf).s.id = id from rfl, e, if_pos rfl] at this
 exact this
theorem RI.lastOf {id c : Nat} {l : List Rec} (h : RI lim Q n B k L (d ++ [⟨id, l, c⟩]) next v) : lastS l ≤ lastS L := by
 have hrec := h.recs
 rw [recsOf_append, recsOf_one] at hrec
 by_cases e : l = []
 ·rw [e, lastS_nil]
  exact Nat.zero_le _
 ·rw [← hrec, lastS_append _ _ e]
  exact Nat.le_refl _
theorem refuse_fn {id c : Nat} {l : List Rec} (h : RI lim Q n B k L (d ++ [⟨id, l, c⟩]) next v) (hlim : lim ≤ 16777216) {r : Rec} (hr : r.May) (hq : lastS L < r.seq) (hu : Q < v.used + r.size) (hs : offAt l l.length + r.size ≤ lim) (hl : l.length ≤ 1000000) (h1 : n ≤ 400) (h2 : B ≤ 160000) (h3 : k ≤ 10000) (sf : Nat) : AppOk (segA id l sf) v r 0 0 21 (segA id l sf) (v.append (segName id) r.enc) := by
 have hid := (h.ids ⟨id, l, c⟩ (by simp)).1
 have hlo := h.lastOf
 have hb : (segA id l sf).badE r = 0 := by
  unfold SG.badE
  rw [if_neg, if_neg]
  ·show ¬ 16777216 - (offAt l l.length : Int) < (r.size : Int)
   omega
  ·rintro (g | g)
   ·exact g hr
   ·have g : r.seq ≤ lastS l := g
    omega
 have e0 : (segA id l sf).appE v r = 21 := by
  unfold SG.appE
  rw [if_neg (by rw [hb]; decide)]
  exact (h.refuse (r := r) hu).1
 have e1 : (segA id l sf).appV v r = v.append (segName id) r.enc := by
  unfold SG.appV
  rw [if_neg (by rw [hb]; decide)]
  rfl
 have e2 : (segA id l sf).appG v r = segA id l sf := if_neg (by rw [e0]; decide)
 have e3 : (segA id l sf).appL v r = locA 0 0 := if_neg (by rw [e0]; decide)
 have := segApp_ok h.ok (by omega) (by omega) (by omega) (segA id l sf) r (May.B hr) (show id < 4294967296 by have : IsId id := hid; unfold IsId at this; omega) (show offAt l l.length ≤ 16777216 by omega) (show l.length < 4294967295 by omega)
 rw [e0, e1, e2, e3] at this
 exact this
end
section
variable {n B k : Nat} {L : List Rec} {d : List Sg} {v : VM} (g : RG) (hd : List Ed) (left : Int) {r : Rec}
theorem go_first (h : RI 4096 1073741824 n B k L d g.next v) (hn1 : n ≤ 330) (hB1 : B ≤ 150000) (hk : k ≤ 9000) (hd1 : d.length ≤ 100) (hgs : g.sealed = sealsOf d) (hn : IsId g.next) (h256 : g.next ≤ 256) (hh : hd.length ≤ 1000) (hr : r.May) (hq : lastS L < r.seq) :
 ∃ v', RI 4096 1073741824 (n + 4) (B + 1129) (k + 5) (L ++ [r]) (d ++ [⟨g.next, [r], 0⟩]) (g.next + 1) v' ∧ AFn Go.Proofs.Tryz.prog 23 [.ptr 1 0, earA, recA r] (rlC g hd (-1) v) (fun _ : Unit => .tup [locA g.next 16, AV.int .i64 0]) (fun _ => rlOn { g with next := g.next + 1 } (hd ++ [.add g.next]) (-1) v' (segA g.next [r] 0)) := by
 have hsz := May.size hr
 have hQ1 : (n + 1) * B + 16 ≤ 1073741824 := mulB (by omega) (by omega) (by omega)
 obtain ⟨_, hM⟩ := h.made (by omega) hn h256 hQ1
 have hQ2 : (n + 3) * (B + 16) + r.size ≤ 1073741824 := mulB (by omega) (by omega) (by omega)
 have hs : offAt [] ([] : List Rec).length + r.size ≤ 4096 := by show 16 + 0 + r.size ≤ 4096; omega
 obtain ⟨_, hA⟩ := hM.append (by decide) hr hq hs hQ2
 have fM := made_fn h (by omega) hn h256 (by omega) (by omega) (by omega)
 have fA := app_fn hM (by decide) hr hq hs (by simp) (by omega) (by omega) (by omega) 0
 have hsl : g.sealed.length ≤ 100 := by rw [hgs, sealsOf_len]; omega
 have hnI : g.next ≤ 16777215 := by omega
 have hB := rollBegin_ok g hd (-1) (by omega) (by decide) (by decide) (by omega) hnI fM
 have hL0 : lastR 0 g.sealed = lastS L := by rw [hgs]; exact h.last0
 exact ⟨_, hA.more (by omega) (by omega) (by omega), appBegin_ok g hd (-1) (by omega) hr (by rw [hL0]; exact hq) hB fA⟩
theorem go_room {id c sf : Nat} {l : List Rec} (h : RI 4096 1073741824 n B k L (d ++ [⟨id, l, c⟩]) g.next v) (hn1 : n ≤ 330) (hB1 : B ≤ 150000) (hk : k ≤ 9000) (hd1 : d.length ≤ 100) (hgl : g.lim = 4096) (hgs : g.sealed = sealsOf d) (hll : l.length ≤ 1000000) (hr : r.May) (hq : lastS L < r.seq) (hs : offAt l l.length + r.size ≤ 4096) :
 ∃ v', RI 4096 1073741824 (n + 1) (B + 1113) (k + 1) (L ++ [r]) (d ++ [⟨id, l ++ [r], c⟩]) g.next v' ∧ AFn Go.Proofs.Tryz.prog 23 [.ptr 1 0, earA, recA r] (rlO g hd left v (segA id l sf)) (fun _ : Unit => .tup [locA id (offAt l l.length), AV.int .i64 0]) (fun _ => rlO g hd left v' (segA id (l ++ [r]) sf)) := by
 have hsz := May.size hr
 have hQ2 : n * B + r.size ≤ 1073741824 := mulB (by omega) (by omega) (by omega)
 obtain ⟨_, hA⟩ := h.append (by decide) hr hq hs hQ2
 have fA := app_fn h (by decide) hr hq hs hll (by omega) (by omega) (by omega) sf
 have hsl : g.sealed.length ≤ 100 := by rw [hgs, sealsOf_len]; omega
 have hL0 : lastR (lastS l) g.sealed = lastS L := by rw [hgs]; exact h.last
 exact ⟨_, hA.more (by omega) (by omega) (by omega), appRoom_ok g hd left (by omega) hr (by show lastR (lastS l) g.sealed < r.seq; rw [hL0]; exact hq) (by rw [hgl]; exact hs) (by omega) fA⟩
theorem go_full {id c sf : Nat} {l : List Rec} (h : RI 4096 1073741824 n B k L (d ++ [⟨id, l, c⟩]) g.next v) (hn1 : n ≤ 330) (hB1 : B ≤ 150000) (hk : k ≤ 9000) (hd1 : d.length ≤ 100) (hgl : g.lim = 4096) (hgs : g.sealed = sealsOf d) (hn : IsId g.next) (h256 : g.next ≤ 256) (hh : hd.length ≤ 1000) (hr : r.May) (hq : lastS L < r.seq) (hs : 4096 < offAt l l.length + r.size) :
 ∃ v', RI 4096 1073741824 (n + 4) (B + 1129) (k + 6) (L ++ [r]) ((d ++ [⟨id, l, l.length⟩]) ++ [⟨g.next, [r], 0⟩]) (g.next + 1) v' ∧ AFn Go.Proofs.Tryz.prog 23 [.ptr 1 0, earA, recA r] (rlO g hd (-1) v (segA id l sf)) (fun _ : Unit => .tup [locA g.next 16, AV.int .i64 0]) (fun _ => rlOm ⟨g.lim, g.sealed ++ [sealS id l], g.next + 1, lastS L⟩ ((hd ++ [.shut (sealS id l)]) ++ [.add g.next]) (-1) v' (segA g.next [r] 0)) := by
 have hsz := May.size hr
 have hlt := h.size ⟨id, l, c⟩ (by simp)
 have hlt : offAt l l.length ≤ 4096 := hlt
 obtain ⟨_, hS⟩ := h.sync
 have hQ1 : (n + 1) * B + 16 ≤ 1073741824 := mulB (by omega) (by omega) (by omega)
 obtain ⟨_, hM⟩ := hS.made (by omega) hn h256 hQ1
 have hQ2 : (n + 3) * (B + 16) + r.size ≤ 1073741824 := mulB (by omega) (by omega) (by omega)
 have hs0 : offAt [] ([] : List Rec).length + r.size ≤ 4096 := by show 16 + 0 + r.size ≤ 4096; omega
 obtain ⟨_, hA⟩ := hM.append (by decide) hr hq hs0 hQ2
 have fS := sync_fn h (by omega) (by omega) (by omega) sf
 have fM := made_fn hS (by omega) hn h256 (by omega) (by omega) (by omega)
 have fA := app_fn hM (by decide) hr hq hs0 (by simp) (by omega) (by omega) (by omega) 0
 have hsl : g.sealed.length ≤ 100 := by rw [hgs, sealsOf_len]; omega
 have hL0 : lastR (lastS l) g.sealed = lastS L := by rw [hgs]; exact h.last
 have hR := rollRest_ok g hd (-1) (by omega) (by omega) (by decide) (by decide) fS
 have hB := rollBegin_ok ⟨g.lim, g.sealed ++ [sealS id l], g.next, lastS L⟩ (hd ++ [.shut (sealS id l)]) (-1) (by rw [List.length_append]; show hd.length + 1 ≤ 1000000; omega) (by decide) (by decide) (by show (g.sealed ++ [sealS id l]).length < 200; rw [List.length_append]; show g.sealed.length + 1 < 200; omega) (by show g.next ≤ 16777215; omega) fM
 refine ⟨_, hA.more (by omega) (by omega) (by omega), ?_⟩
 refine appFull_ok g hd (-1) (by omega) hr (by show lastR (lastS l) g.sealed < r.seq; rw [hL0]; exact hq) (by rw [hgl]; exact hs) (by show offAt l l.length ≤ 16777216; omega) ?_ hB fA
 have e : (⟨g.lim, g.sealed ++ [sealS id l], g.next, lastS L⟩ : RG) = { g with sealed := g.sealed ++ [(segA id l (lastS l)).s], safe := lastR (segA id l (lastS l)).s.last g.sealed } := by
  rw [← hL0]
  rfl
 rw [e]
 exact hR
theorem no_full {id c sf : Nat} {l : List Rec} (h : RI 4096 1073741824 n B k L (d ++ [⟨id, l, c⟩]) g.next v) (hn1 : n ≤ 330) (hB1 : B ≤ 150000) (hk : k ≤ 9000) (hd1 : d.length ≤ 100) (hgl : g.lim = 4096) (hgs : g.sealed = sealsOf d) (hr : r.May) (hq : lastS L < r.seq) (hs : 4096 < offAt l l.length + r.size) :
 RI 4096 1073741824 n B (k + 1) L (d ++ [⟨id, l, l.length⟩]) g.next (v.sync (segName id)) ∧ AFn Go.Proofs.Tryz.prog 23 [.ptr 1 0, earA, recA r] (rlO g hd 0 v (segA id l sf)) (fun _ : Unit => .tup [locA 0 0, AV.int .i64 21]) (fun _ => rlO { g with safe := lastS L } hd 0 (v.sync (segName id)) (segA id l (lastS l))) := by
 have hlt := h.size ⟨id, l, c⟩ (by simp)
 have hlt : offAt l l.length ≤ 4096 := hlt
 have fS := sync_fn h (by omega) (by omega) (by omega) sf
 have hsl : g.sealed.length ≤ 100 := by rw [hgs, sealsOf_len]; omega
 have hL0 : lastR (lastS l) g.sealed = lastS L := by rw [hgs]; exact h.last
 have hR := rollRest_deaf g hd (by omega) fS
 refine ⟨h.sync.2, ?_⟩
 refine appRest_deaf g hd 0 (by omega) hr (by show lastR (lastS l) g.sealed < r.seq; rw [hL0]; exact hq) (by rw [hgl]; exact hs) (by show offAt l l.length ≤ 16777216; omega) ?_
 rw [← hL0]
 exact hR
theorem poor_room {id c sf : Nat} {l : List Rec} (h : RI 4096 1073741824 n B k L (d ++ [⟨id, l, c⟩]) g.next v) (hn1 : n ≤ 330) (hB1 : B ≤ 150000) (hk : k ≤ 9000) (hd1 : d.length ≤ 100) (hgl : g.lim = 4096) (hgs : g.sealed = sealsOf d) (hll : l.length ≤ 1000000) (hr : r.May) (hq : lastS L < r.seq) (hs : offAt l l.length + r.size ≤ 4096) {Q : Nat} (hQ : Q = v.used + 20) (hQ2 : Q ≤ 1073741824) :
 ∃ v', RI 4096 Q (n + 1) (B + 1113) (k + 1) L (d ++ [⟨id, l, c⟩]) g.next v' ∧ AFn Go.Proofs.Tryz.prog 23 [.ptr 1 0, earA, recA r] (rlO g hd left (v.quot (Q : Int)) (segA id l sf)) (fun _ : Unit => .tup [locA 0 0, AV.int .i64 21]) (fun _ => rlO g hd left v' (segA id l sf)) := by
 have hsz := May.size hr
 have hq1 := h.quot (q := Q) hQ2
 have hp : 25 ≤ r.size := by unfold Rec.size; omega
 have hu : Q < (v.quot (Q : Int)).used + r.size := by rw [quot_used]; omega
 have hA := (hq1.refuse (r := r) hu).2
 have fA := refuse_fn hq1 (by decide) hr hq hu hs hll (by omega) (by omega) (by omega) sf
 have hsl : g.sealed.length ≤ 100 := by rw [hgs, sealsOf_len]; omega
 have hL0 : lastR (lastS l) g.sealed = lastS L := by rw [hgs]; exact h.last
 exact ⟨_, hA.more (by omega) (by omega) (by omega), appRoom_ok g hd left (by omega) hr (by show lastR (lastS l) g.sealed < r.seq; rw [hL0]; exact hq) (by rw [hgl]; exact hs) (by omega) fA⟩
theorem used_sync' {Q : Nat} {id c : Nat} {l : List Rec} {next : Nat} (h : RI 4096 Q n B k L (d ++ [⟨id, l, c⟩]) next v) : (v.sync (segName id)).used = v.used := by
 obtain ⟨_, f, hf, _⟩ := h.safe ⟨id, l, c⟩ (by simp)
 exact used_sync h.ok h.up hf
theorem poor_full {id c sf : Nat} {l : List Rec} (h : RI 4096 1073741824 n B k L (d ++ [⟨id, l, c⟩]) g.next v) (hn1 : n ≤ 330) (hB1 : B ≤ 150000) (hk : k ≤ 9000) (hd1 : d.length ≤ 100) (hgl : g.lim = 4096) (hgs : g.sealed = sealsOf d) (hn : IsId g.next) (h256 : g.next ≤ 256) (hh : hd.length ≤ 1000) (hr : r.May) (hq : lastS L < r.seq) (hs : 4096 < offAt l l.length + r.size) {Q : Nat} (hQ : Q = v.used + 20) (hQ2 : Q ≤ 1073741824) :
 ∃ v', RI 4096 Q (n + 4) (B + 1129) (k + 6) L ((d ++ [⟨id, l, l.length⟩]) ++ [⟨g.next, [], 0⟩]) (g.next + 1) v' ∧ AFn Go.Proofs.Tryz.prog 23 [.ptr 1 0, earA, recA r] (rlO g hd (-1) (v.quot (Q : Int)) (segA id l sf)) (fun _ : Unit => .tup [locA 0 0, AV.int .i64 21]) (fun _ => rlOm ⟨g.lim, g.sealed ++ [sealS id l], g.next + 1, lastS L⟩ ((hd ++ [.shut (sealS id l)]) ++ [.add g.next]) (-1) v' (segA g.next [] 0)) := by
 have hsz := May.size hr
 have hlt := h.size ⟨id, l, c⟩ (by simp)
 have hlt : offAt l l.length ≤ 4096 := hlt
 have hp : 25 ≤ r.size := by unfold Rec.size; omega
 have hq1 := h.quot (q := Q) hQ2
 obtain ⟨_, hS⟩ := hq1.sync
 have hu1 : ((v.quot (Q : Int)).sync (segName id)).used = v.used := (used_sync' hq1).trans (quot_used v _)
 obtain ⟨_, hM⟩ := hS.madeQ (by omega) hn h256 (by omega)
 have hu2 := hS.usedQ hn h256 (by omega)
 have hs0 : offAt [] ([] : List Rec).length + r.size ≤ 4096 := by show 16 + 0 + r.size ≤ 4096; omega
 have hu3 : Q < (((v.quot (Q : Int)).sync (segName id)).cr (segName g.next) (headB 1 g.next) 4).used + r.size := by rw [hu2, hu1]; omega
 have hA := (hM.refuse (r := r) hu3).2
 have fS := syncQ_fn hq1 (by omega) (by omega) (by omega) sf
 have fM := madeQ_fn hS (by omega) hn h256 (by omega) (by omega) (by omega) (by omega)
 have fA := refuse_fn hM (by decide) hr hq hu3 hs0 (by simp) (by omega) (by omega) (by omega) 0
 have hsl : g.sealed.length ≤ 100 := by rw [hgs, sealsOf_len]; omega
 have hL0 : lastR (lastS l) g.sealed = lastS L := by rw [hgs]; exact h.last
 have hR := rollRest_ok g hd (-1) (by omega) (by omega) (by decide) (by decide) fS
 have hB := rollBegin_ok ⟨g.lim, g.sealed ++ [sealS id l], g.next, lastS L⟩ (hd ++ [.shut (sealS id l)]) (-1) (by rw [List.length_append]; show hd.length + 1 ≤ 1000000; omega) (by decide) (by decide) (by show (g.sealed ++ [sealS id l]).length < 200; rw [List.length_append]; show g.sealed.length + 1 < 200; omega) (by show g.next ≤ 16777215; omega) fM
 refine ⟨_, hA.more (by omega) (by omega) (by omega), ?_⟩
 refine appFull_ok g hd (-1) (by omega) hr (by show lastR (lastS l) g.sealed < r.seq; rw [hL0]; exact hq) (by rw [hgl]; exact hs) (by show offAt l l.length ≤ 16777216; omega) ?_ hB fA
 have e : (⟨g.lim, g.sealed ++ [sealS id l], g.next, lastS L⟩ : RG) = { g with sealed := g.sealed ++ [(segA id l (lastS l)).s], safe := lastR (segA id l (lastS l)).s.last g.sealed } := by
  rw [← hL0]
  rfl
 rw [e]
 exact hR
theorem poor_first (h : RI 4096 1073741824 n B k L d g.next v) (hn1 : n ≤ 330) (hB1 : B ≤ 150000) (hk : k ≤ 9000) (hd1 : d.length ≤ 100) (hgs : g.sealed = sealsOf d) (hn : IsId g.next) (h256 : g.next ≤ 256) (hh : hd.length ≤ 1000) (hr : r.May) (hq : lastS L < r.seq) {Q : Nat} (hQ : Q = v.used + 20) (hQ2 : Q ≤ 1073741824) :
 ∃ v', RI 4096 Q (n + 4) (B + 1129) (k + 5) L (d ++ [⟨g.next, [], 0⟩]) (g.next + 1) v' ∧ AFn Go.Proofs.Tryz.prog 23 [.ptr 1 0, earA, recA r] (rlC g hd (-1) (v.quot (Q : Int))) (fun _ : Unit => .tup [locA 0 0, AV.int .i64 21]) (fun _ => rlOn { g with next := g.next + 1 } (hd ++ [.add g.next]) (-1) v' (segA g.next [] 0)) := by
 have hsz := May.size hr
 have hp : 25 ≤ r.size := by unfold Rec.size; omega
 have hq1 := h.quot (q := Q) hQ2
 have hu1 := quot_used v (Q : Int)
 obtain ⟨_, hM⟩ := hq1.madeQ (by omega) hn h256 (by omega)
 have hu2 := hq1.usedQ hn h256 (by omega)
 have hs0 : offAt [] ([] : List Rec).length + r.size ≤ 4096 := by show 16 + 0 + r.size ≤ 4096; omega
 have hu3 : Q < ((v.quot (Q : Int)).cr (segName g.next) (headB 1 g.next) 4).used + r.size := by rw [hu2, hu1]; omega
 have hA := (hM.refuse (r := r) hu3).2
 have fM := madeQ_fn hq1 (by omega) hn h256 (by omega) (by omega) (by omega) (by omega)
 have fA := refuse_fn hM (by decide) hr hq hu3 hs0 (by simp) (by omega) (by omega) (by omega) 0
 have hsl : g.sealed.length ≤ 100 := by rw [hgs, sealsOf_len]; omega
 have hL0 : lastR 0 g.sealed = lastS L := by rw [hgs]; exact h.last0
 have hnI : g.next ≤ 16777215 := by omega
 have hB := rollBegin_ok g hd (-1) (by omega) (by decide) (by decide) (by omega) hnI fM
 exact ⟨_, hA.more (by omega) (by omega) (by omega), appBegin_ok g hd (-1) (by omega) hr (by rw [hL0]; exact hq) hB fA⟩
theorem no_first {next : Nat} (h : RI 4096 1073741824 n B k [] [] next v) (hn1 : n ≤ 330) (hB1 : B ≤ 150000) (hk : k ≤ 9000) (hn : IsId next) (h256 : next ≤ 256) (hr : r.May) (lm sf : Nat) :
 ∃ v', RI 4096 1073741824 (n + 4) (B + 16) (k + 5) [] [] (next + 1) v' ∧ AFn Go.Proofs.Tryz.prog 23 [.ptr 1 0, earA, recA r] (rlC ⟨lm, [], next, sf⟩ hd 0 v) (fun _ : Unit => .tup [locA 0 0, AV.int .i64 21]) (fun _ => rlC ⟨lm, [], next + 1, sf⟩ hd 0 v') := by
 have hQ1 : (n + 1) * B + 16 ≤ 1073741824 := mulB (by omega) (by omega) (by omega)
 obtain ⟨_, hM⟩ := h.made (by omega) hn h256 hQ1
 have fM := made_fn h (by omega) hn h256 (by omega) (by omega) (by omega)
 have hf := h.few
 obtain ⟨_, _, _, a4, _⟩ := FSt.madeG h.ok h.up hn (h.noName hn) (by omega) (appE_room (h.ok.create (segName next)) (h.up.step (h.up.tick.create1 _)) (by rw [headB_len]; exact hQ1) _)
 generalize v.cr (segName next) (headB 1 next) 4 = v1 at *
 have hx : afind v1.fd.now (segName next) = some (v.fd.last + 1) := by rw [a4, afind_aput, if_pos rfl]
 have e0 : v1.fd.remE (segName next) = 0 := by
  unfold FD.remE
  rw [segName_may hn, hx]
  rfl
 have e1 : v1.removeE (segName next) = 0 := by
  unfold VM.removeE
  rw [stepE_on hM.up.off hM.up.ne]
  exact e0
 have fd1 : (v1.remove (segName next)).fd.now = adel v1.fd.now (segName next) := by
  unfold VM.remove
  rw [stepV_on hM.up.off hM.up.ne]
  show (v1.fd.rem (segName next)).now = _
  unfold FD.rem
  rw [if_pos e0]
  rfl
 have hR := fsRemove hM.ok (by omega) (by omega) (by omega) (segName next)
 rw [e1] at hR
 have hB := rollBegin_deaf ⟨lm, [], next, sf⟩ hd (by show ([] : List Sl).length < 200; decide) (by show next ≤ 16777215; omega) fM hR
 have hs0 : 0 < r.seq := by
  have := hr.2.1.1
  omega
 refine ⟨v1.remove (segName next), ⟨(hM.ok.remove (segName next)).more (by omega) (by omega) (by omega), hM.up.step ⟨hM.up.tick.off, hM.up.tick.fuse, hM.up.tick.quota⟩, rfl, trivial, fun _ h => (by cases h), List.Pairwise.nil, fun _ h => (by cases h), fun _ h => (by cases h), fun p hp => ?_, ?_⟩, appBegin_deaf ⟨lm, [], next, sf⟩ hd 0 (by show ([] : List Sl).length ≤ 1000; decide) hr hs0 hB⟩
 ·rw [fd1] at hp
  exact hM.names p (mem_adel.1 hp).1
 ·rw [fd1]
  exact Nat.lt_of_le_of_lt (adel_length _ _) hM.few
end
end Go.Proofs.YtgfkepebfaiepaaGreatDoor.Ax

namespace Go.Proofs.YtgfkepebfaiepaaGreatDoor.Ax
open Go.RowKit
set_option maxRecDepth 100000
structure RT where
 g : RG
 hd : List Ed
 d : List Sg
 id : Nat
 l : List Rec
 c : Nat
 sf : Nat
 v : VM
def RT.S (s : RT) : List Sg := s.d ++ [⟨s.id, s.l, s.c⟩]
def RT.sg (s : RT) : SG := segA s.id s.l s.sf
def RT.loc (s : RT) : Nat × Nat := (s.id, offAt s.l (s.l.length - 1))
def RT.quot (s : RT) : RT := { s with v := s.v.quot ((1073741824 : Nat) : Int) }
structure RT.In (Q : Nat) (L : List Rec) (n B k q : Nat) (s : RT) : Prop where
 ri : RI 4096 Q n B k L (s.d ++ [⟨s.id, s.l, s.c⟩]) s.g.next s.v
 gl : s.g.lim = 4096
 gs : s.g.sealed = sealsOf s.d
 few : s.d.length < q
 next : s.g.next ≤ s.d.length + 3
 hdl : s.hd.length ≤ 2 * s.d.length + 1
section
variable {Q n B k q : Nat} {L : List Rec} {s : RT}
theorem RT.In.more {n' B' k' q' : Nat} (h : s.In Q L n B k q) (h1 : n ≤ n') (h2 : B ≤ B') (h3 : k ≤ k') (h4 : q ≤ q') : s.In Q L n' B' k' q' :=
 ⟨h.ri.more h1 h2 h3, h.gl, h.gs, Nat.lt_of_lt_of_le h.few h4, h.next, h.hdl⟩
theorem RT.In.quot (h : s.In Q L n B k q) : s.quot.In 1073741824 L n B k q := ⟨h.ri.quot (Nat.le_refl _), h.gl, h.gs, h.few, h.next, h.hdl⟩
theorem RT.In.isNext (h : s.In Q L n B k q) (hq : q ≤ 100) : IsId s.g.next ∧ s.g.next ≤ 256 := by
 have h1 := (h.ri.ids ⟨s.id, s.l, s.c⟩ (by simp)).2
 have h1 : s.id < s.g.next := h1
 have h2 := h.next
 have h3 := h.few
 exact ⟨isId _ (by omega), by omega⟩
theorem RT.In.last (h : s.In Q L n B k q) : lastR (lastS s.l) s.g.sealed = lastS L := by
 rw [h.gs]
 exact h.ri.last
theorem RT.In.lens (h : s.In Q L n B k q) : s.l.length ≤ L.length := by
 have := h.ri.recs
 rw [recsOf_append, recsOf_one] at this
 rw [← this, List.length_append]
 exact Nat.le_add_left _ _
end
def RT.At (L : List Rec) (i : Nat) (s : RT) : Prop := s.In 1073741824 (L.take i) (5 * i + 10) (2300 * i + 100) (12 * i + 10) i
def RT.Mid (Q : Nat) (L : List Rec) (i : Nat) (s : RT) : Prop := (s.In Q (L.take i) (5 * i + 14) (2300 * i + 1230) (12 * i + 16) (i + 1) ∧ offAt s.l s.l.length + (L.getD i default).size ≤ 4096) ∨ (s.In Q (L.take i) (5 * i + 10) (2300 * i + 100) (12 * i + 11) i ∧ 4096 < offAt s.l s.l.length + (L.getD i default).size)
def rtH (b : Bool) (left : Int) (t : RT) : AH := match b with
 | false => rlO t.g t.hd left t.v t.sg
 | true => rlOm t.g t.hd left t.v t.sg
section
variable {Q i : Nat} {L : List Rec} {s : RT}
theorem RT.At.quot (h : s.At L i) : s.quot.At L i := RT.In.quot h
theorem RT.Mid.quot (h : s.Mid Q L i) : s.quot.Mid 1073741824 L i := by
 rcases h with ⟨h1, h2⟩ | ⟨h1, h2⟩
 ·exact .inl ⟨h1.quot, h2⟩
 ·exact .inr ⟨h1.quot, h2⟩
theorem RT.At.mid (h : s.At L i) : s.Mid 1073741824 L i := by
 by_cases hs : offAt s.l s.l.length + (L.getD i default).size ≤ 4096
 ·exact .inl ⟨RT.In.more h (by omega) (by omega) (by omega) (by omega), hs⟩
 ·exact .inr ⟨RT.In.more h (by omega) (by omega) (by omega) (by omega), by omega⟩
theorem RT.Mid.last (h : s.Mid Q L i) (hN : Numd L) (hi : i ≤ L.length) : lastR s.sg.s.last s.g.sealed = i := by
 rcases h with ⟨h, _⟩ | ⟨h, _⟩ <;> exact h.last.trans (lastS_take hN hi)
theorem RT.Mid.few (h : s.Mid Q L i) (hi : i ≤ 100) : s.g.sealed.length ≤ 1000 := by
 rcases h with ⟨h, _⟩ | ⟨h, _⟩ <;> (rw [h.gs, sealsOf_len]; have := h.few; omega)
theorem RT.locs_c (s : RT) (g : RG) (c sf : Nat) (v : VM) : locsOf (RT.S { s with g := g, c := c, sf := sf, v := v }) = locsOf s.S := by
 unfold RT.S
 show locsOf (s.d ++ [⟨s.id, s.l, c⟩]) = _
 rw [locsOf_append, locsOf_append, locsOf_one, locsOf_one]
 rfl
theorem RT.locs_snoc (s : RT) (r : Rec) (v : VM) : locsOf (RT.S { s with l := s.l ++ [r], v := v }) = locsOf s.S ++ [(s.id, offAt s.l s.l.length)] ∧ RT.loc { s with l := s.l ++ [r], v := v } = (s.id, offAt s.l s.l.length) := by
 refine ⟨?_, ?_⟩
 ·unfold RT.S
  show locsOf (s.d ++ [⟨s.id, s.l ++ [r], s.c⟩]) = _
  rw [locsOf_append, locsOf_append, locsOf_one, locsOf_one, locsA_snoc s.id s.c s.c, List.append_assoc]
 ·unfold RT.loc
  show (s.id, offAt (s.l ++ [r]) ((s.l ++ [r]).length - 1)) = _
  rw [List.length_append, show s.l.length + [r].length - 1 = s.l.length from rfl, offAt_append _ _ (Nat.le_refl _)]
theorem RT.goes (h : s.Mid 1073741824 L i) (hN : Numd L) (hi : i < L.length) (hL : L.length ≤ 60) :
 AFn Go.Proofs.Tryz.prog 23 [.ptr 1 0, earA, recA (L.getD i default)] (rlO s.g s.hd (-1) s.v s.sg) (fun t : { t : Bool × RT // t.2.At L (i + 1) ∧ locsOf t.2.S = locsOf s.S ++ [t.2.loc] } => .tup [locA t.1.2.loc.1 t.1.2.loc.2, AV.int .i64 0]) (fun t => rtH t.1.1 (-1) t.1.2) := by
 have hr := hN.getMay hi
 have hq := hN.seq i hi
 have hq2 : lastS (L.take i) < (L.getD i default).seq := by rw [lastS_take hN (Nat.le_of_lt hi), hq]; exact Nat.lt_succ_self _
 have htk : (L.take i).length ≤ 60 := by rw [List.length_take]; omega
 rcases h with ⟨h, hs⟩ | ⟨h, hs⟩
 ·have hln := h.lens
  have hfw := h.few
  obtain ⟨v', h1, h2⟩ := go_room (sf := s.sf) s.g s.hd (-1) h.ri (by omega) (by omega) (by omega) (by omega) h.gl h.gs (by omega) hr hq2 hs
  obtain ⟨e1, e2⟩ := RT.locs_snoc s (L.getD i default) v'
  refine AFn.say h2 fun _ => ⟨⟨(false, { s with l := s.l ++ [L.getD i default], v := v' }), ⟨?_, h.gl, h.gs, hfw, h.next, h.hdl⟩, ?_⟩, ?_, rfl⟩
  ·rw [take_snocN hi]
   exact h1.more (by omega) (by omega) (by omega)
  ·rw [e2]
   exact e1
  ·show AVE (.tup [locA s.id (offAt s.l s.l.length), AV.int .i64 0]) (.tup [locA (RT.loc { s with l := s.l ++ [L.getD i default], v := v' }).1 (RT.loc { s with l := s.l ++ [L.getD i default], v := v' }).2, AV.int .i64 0])
   rw [e2]
   exact AVE.refl _
 ·have hfw := h.few
  have hnx := h.next
  have hhd := h.hdl
  obtain ⟨hn1, hn2⟩ := h.isNext (by omega)
  obtain ⟨v', h1, h2⟩ := go_full (sf := s.sf) s.g s.hd h.ri (by omega) (by omega) (by omega) (by omega) h.gl h.gs hn1 hn2 (by omega) hr hq2 hs
  refine AFn.say h2 fun _ => ⟨⟨(true, ⟨⟨s.g.lim, s.g.sealed ++ [sealS s.id s.l], s.g.next + 1, lastS (L.take i)⟩, (s.hd ++ [.shut (sealS s.id s.l)]) ++ [.add s.g.next], s.d ++ [⟨s.id, s.l, s.l.length⟩], s.g.next, [L.getD i default], 0, 0, v'⟩), ⟨?_, h.gl, ?_, ?_, ?_, ?_⟩, ?_⟩, AVE.refl _, rfl⟩
  ·rw [take_snocN hi]
   exact h1.more (by omega) (by omega) (by omega)
  ·show s.g.sealed ++ [sealS s.id s.l] = sealsOf (s.d ++ [⟨s.id, s.l, s.l.length⟩])
   rw [sealsOf_snoc, h.gs]
  ·show (s.d ++ [(⟨s.id, s.l, s.l.length⟩ : Sg)]).length < i + 1
   rw [List.length_append]
   show s.d.length + 1 < i + 1
   omega
  ·show s.g.next + 1 ≤ (s.d ++ [(⟨s.id, s.l, s.l.length⟩ : Sg)]).length + 3
   rw [List.length_append]
   show s.g.next + 1 ≤ s.d.length + 1 + 3
   omega
  ·show ((s.hd ++ [Ed.shut (sealS s.id s.l)]) ++ [Ed.add s.g.next]).length ≤ 2 * (s.d ++ [(⟨s.id, s.l, s.l.length⟩ : Sg)]).length + 1
   rw [List.length_append, List.length_append, List.length_append]
   show s.hd.length + 1 + 1 ≤ 2 * (s.d.length + 1) + 1
   omega
  ·unfold RT.S RT.loc
   show locsOf ((s.d ++ [⟨s.id, s.l, s.l.length⟩]) ++ [⟨s.g.next, [L.getD i default], 0⟩]) = _
   rw [locsOf_append, locsOf_append, locsOf_one, locsOf_one, locsOf_append, locsOf_one]
   rfl
theorem RT.deafRoom (h : s.At L i) (hN : Numd L) (hi : i < L.length) (hL : L.length ≤ 60) (hs : offAt s.l s.l.length + (L.getD i default).size ≤ 4096) :
 AFn Go.Proofs.Tryz.prog 23 [.ptr 1 0, earA, recA (L.getD i default)] (rlO s.g s.hd 0 s.v s.sg) (fun t : { t : RT // t.At L (i + 1) ∧ locsOf t.S = locsOf s.S ++ [t.loc] } => .tup [locA t.1.loc.1 t.1.loc.2, AV.int .i64 0]) (fun t => rlO t.1.g t.1.hd 0 t.1.v t.1.sg) := by
 have hr := hN.getMay hi
 have hq := hN.seq i hi
 have hq2 : lastS (L.take i) < (L.getD i default).seq := by rw [lastS_take hN (Nat.le_of_lt hi), hq]; exact Nat.lt_succ_self _
 have htk : (L.take i).length ≤ 60 := by rw [List.length_take]; omega
 have hln := RT.In.lens h
 have hfw := RT.In.few h
 obtain ⟨v', h1, h2⟩ := go_room (sf := s.sf) s.g s.hd 0 h.ri (by omega) (by omega) (by omega) (by omega) h.gl h.gs (by omega) hr hq2 hs
 obtain ⟨e1, e2⟩ := RT.locs_snoc s (L.getD i default) v'
 refine AFn.say h2 fun _ => ⟨⟨{ s with l := s.l ++ [L.getD i default], v := v' }, ⟨?_, h.gl, h.gs, Nat.lt_succ_of_lt hfw, h.next, h.hdl⟩, ?_⟩, ?_, rfl⟩
 ·rw [take_snocN hi]
  exact h1.more (by omega) (by omega) (by omega)
 ·rw [e2]
  exact e1
 ·show AVE (.tup [locA s.id (offAt s.l s.l.length), AV.int .i64 0]) (.tup [locA (RT.loc { s with l := s.l ++ [L.getD i default], v := v' }).1 (RT.loc { s with l := s.l ++ [L.getD i default], v := v' }).2, AV.int .i64 0])
  rw [e2]
  exact AVE.refl _
theorem RT.deafFull (h : s.At L i) (hN : Numd L) (hi : i < L.length) (hL : L.length ≤ 60) (hs : 4096 < offAt s.l s.l.length + (L.getD i default).size) :
 AFn Go.Proofs.Tryz.prog 23 [.ptr 1 0, earA, recA (L.getD i default)] (rlO s.g s.hd 0 s.v s.sg) (fun _ : { t : RT // t.Mid 1073741824 L i ∧ locsOf t.S = locsOf s.S } => .tup [locA 0 0, AV.int .i64 21]) (fun t => rlO t.1.g t.1.hd 0 t.1.v t.1.sg) := by
 have hr := hN.getMay hi
 have hq := hN.seq i hi
 have hq2 : lastS (L.take i) < (L.getD i default).seq := by rw [lastS_take hN (Nat.le_of_lt hi), hq]; exact Nat.lt_succ_self _
 have hfw := RT.In.few h
 obtain ⟨h1, h2⟩ := no_full (sf := s.sf) s.g s.hd h.ri (by omega) (by omega) (by omega) (by omega) h.gl h.gs hr hq2 hs
 exact AFn.say h2 fun _ => ⟨⟨{ s with g := { s.g with safe := lastS (L.take i) }, c := s.l.length, sf := lastS s.l, v := s.v.sync (segName s.id) }, .inr ⟨⟨h1, h.gl, h.gs, hfw, h.next, h.hdl⟩, hs⟩, RT.locs_c s _ _ _ _⟩, AVE.refl _, rfl⟩
theorem RT.poor (h : s.At L i) (hN : Numd L) (hi : i < L.length) (hL : L.length ≤ 60) {q : Int} (hq : q = (s.v.used : Int) + 20) :
 AFn Go.Proofs.Tryz.prog 23 [.ptr 1 0, earA, recA (L.getD i default)] (rlO s.g s.hd (-1) (s.v.quot q) s.sg) (fun _ : { t : Bool × RT // t.2.quot.Mid 1073741824 L i ∧ locsOf t.2.S = locsOf s.S } => .tup [locA 0 0, AV.int .i64 21]) (fun t => rtH t.1.1 (-1) t.1.2) := by
 have hr := hN.getMay hi
 have hsq := hN.seq i hi
 have hq2 : lastS (L.take i) < (L.getD i default).seq := by rw [lastS_take hN (Nat.le_of_lt hi), hsq]; exact Nat.lt_succ_self _
 have htk : (L.take i).length ≤ 60 := by rw [List.length_take]; omega
 have hln := RT.In.lens h
 have hfw := RT.In.few h
 have hsz := May.size hr
 have hnx := RT.In.next h
 have hhd := RT.In.hdl h
 have hu := used_le h.ri.ok
 have hm : (5 * i + 10) * (2300 * i + 100) + 20 ≤ 1073741824 := mulB (by omega) (by omega) (by omega)
 obtain rfl : q = ((s.v.used + 20 : Nat) : Int) := by omega
 by_cases hs : offAt s.l s.l.length + (L.getD i default).size ≤ 4096
 ·obtain ⟨v', h1, h2⟩ := poor_room (sf := s.sf) s.g s.hd (-1) h.ri (by omega) (by omega) (by omega) (by omega) h.gl h.gs (by omega) hr hq2 hs (Q := s.v.used + 20) rfl (by omega)
  exact AFn.say h2 fun _ => ⟨⟨(false, { s with v := v' }), RT.Mid.quot (Q := s.v.used + 20) (.inl ⟨⟨h1.more (by omega) (by omega) (by omega), h.gl, h.gs, Nat.lt_succ_of_lt hfw, h.next, h.hdl⟩, hs⟩), rfl⟩, AVE.refl _, rfl⟩
 ·obtain ⟨hn1, hn2⟩ := RT.In.isNext h (by omega)
  obtain ⟨v', h1, h2⟩ := poor_full (sf := s.sf) s.g s.hd h.ri (by omega) (by omega) (by omega) (by omega) h.gl h.gs hn1 hn2 (by omega) hr hq2 (by omega) (Q := s.v.used + 20) rfl (by omega)
  refine AFn.say h2 fun _ => ⟨⟨(true, ⟨⟨s.g.lim, s.g.sealed ++ [sealS s.id s.l], s.g.next + 1, lastS (L.take i)⟩, (s.hd ++ [.shut (sealS s.id s.l)]) ++ [.add s.g.next], s.d ++ [⟨s.id, s.l, s.l.length⟩], s.g.next, [], 0, 0, v'⟩), RT.Mid.quot (Q := s.v.used + 20) (.inl ⟨⟨h1.more (by omega) (by omega) (by omega), h.gl, ?_, ?_, ?_, ?_⟩, ?_⟩), ?_⟩, AVE.refl _, rfl⟩
  ·show s.g.sealed ++ [sealS s.id s.l] = sealsOf (s.d ++ [⟨s.id, s.l, s.l.length⟩])
   rw [sealsOf_snoc, h.gs]
  ·show (s.d ++ [(⟨s.id, s.l, s.l.length⟩ : Sg)]).length < i + 1
   rw [List.length_append]
   show s.d.length + 1 < i + 1
   omega
  ·show s.g.next + 1 ≤ (s.d ++ [(⟨s.id, s.l, s.l.length⟩ : Sg)]).length + 3
   rw [List.length_append]
   show s.g.next + 1 ≤ s.d.length + 1 + 3
   omega
  ·show ((s.hd ++ [Ed.shut (sealS s.id s.l)]) ++ [Ed.add s.g.next]).length ≤ 2 * (s.d ++ [(⟨s.id, s.l, s.l.length⟩ : Sg)]).length + 1
   rw [List.length_append, List.length_append, List.length_append]
   show s.hd.length + 1 + 1 ≤ 2 * (s.d.length + 1) + 1
   omega
  ·show 16 + 0 + (L.getD i default).size ≤ 4096
   omega
  ·unfold RT.S
   show locsOf ((s.d ++ [⟨s.id, s.l, s.l.length⟩]) ++ [⟨s.g.next, [], 0⟩]) = _
   rw [locsOf_append, locsOf_append, locsOf_one, locsOf_one, locsOf_append, locsOf_one]
   show locsOf s.d ++ locsA ⟨s.id, s.l, s.l.length⟩ ++ [] = _
   rw [List.append_nil]
   rfl
end
def RC (p : Nat × VM) : Prop := (p.1 = 1 ∨ p.1 = 2) ∧ RI 4096 1073741824 10 100 10 [] [] p.1 p.2
theorem RC.new : RC (1, VM.new 1073741824) := ⟨.inl rfl, (RB.new (lim := 4096) (fst := 1) (Nat.le_refl 1)).ri.more (by decide) (by decide) (by decide)⟩
section
variable {L : List Rec} {p : Nat × VM}
theorem RC.goes (h : RC p) (hN : Numd L) (hi : 0 < L.length) :
 AFn Go.Proofs.Tryz.prog 23 [.ptr 1 0, earA, recA (L.getD 0 default)] (rlC ⟨4096, [], p.1, 0⟩ [] (-1) p.2) (fun t : { t : RT // t.At L (0 + 1) ∧ locsOf t.S = [t.loc] } => .tup [locA t.1.loc.1 t.1.loc.2, AV.int .i64 0]) (fun t => rlOn t.1.g t.1.hd (-1) t.1.v t.1.sg) := by
 obtain ⟨h0, h⟩ := h
 have hr := hN.getMay hi
 have hq := hN.seq 0 hi
 obtain ⟨v', h1, h2⟩ := go_first ⟨4096, [], p.1, 0⟩ [] h (by decide) (by decide) (by decide) (by decide) rfl (isId p.1 (by omega)) (by show p.1 ≤ 256; omega) (by decide) hr (by rw [lastS_nil, hq]; exact Nat.succ_pos _)
 refine AFn.say h2 fun _ => ⟨⟨⟨⟨4096, [], p.1 + 1, 0⟩, [.add p.1], [], p.1, [L.getD 0 default], 0, 0, v'⟩, ⟨?_, rfl, rfl, Nat.one_pos, by show p.1 + 1 ≤ 0 + 3; omega, Nat.le_refl 1⟩, rfl⟩, AVE.refl _, rfl⟩
 rw [take_snocN hi]
 exact h1.more (by decide) (by decide) (by decide)
theorem RC.deaf (hN : Numd L) (hi : 0 < L.length) :
 AFn Go.Proofs.Tryz.prog 23 [.ptr 1 0, earA, recA (L.getD 0 default)] (rlC ⟨4096, [], 1, 0⟩ [] 0 (VM.new 1073741824)) (fun _ : { v : VM // RC (2, v.quot ((1073741824 : Nat) : Int)) } => .tup [locA 0 0, AV.int .i64 21]) (fun v => rlC ⟨4096, [], 2, 0⟩ [] 0 v.1) := by
 have hr := hN.getMay hi
 obtain ⟨v', h1, h2⟩ := no_first [] (RB.new (lim := 4096) (fst := 1) (Nat.le_refl 1)).ri (by decide) (by decide) (by decide) (isId 1 (by decide)) (by decide) hr 4096 0
 exact AFn.say h2 fun _ => ⟨⟨v', .inr rfl, (h1.more (by decide) (by decide) (by decide)).quot (Nat.le_refl _)⟩, AVE.refl _, rfl⟩
theorem RC.poor (hN : Numd L) (hi : 0 < L.length) {q : Int} (hq : q = ((VM.new 1073741824).used : Int) + 20) :
 AFn Go.Proofs.Tryz.prog 23 [.ptr 1 0, earA, recA (L.getD 0 default)] (rlC ⟨4096, [], 1, 0⟩ [] (-1) ((VM.new 1073741824).quot q)) (fun _ : { t : RT // t.quot.Mid 1073741824 L 0 ∧ locsOf t.S = [] } => .tup [locA 0 0, AV.int .i64 21]) (fun t => rlOn t.1.g t.1.hd (-1) t.1.v t.1.sg) := by
 have hr := hN.getMay hi
 have hsq := hN.seq 0 hi
 have hsz := May.size hr
 have h := (RB.new (lim := 4096) (fst := 1) (Nat.le_refl 1)).ri
 have hu := used_le h.ok
 have hu : (VM.new 1073741824).used ≤ 128 := hu
 obtain rfl : q = (((VM.new 1073741824).used + 20 : Nat) : Int) := by omega
 obtain ⟨v', h1, h2⟩ := poor_first ⟨4096, [], 1, 0⟩ [] h (by decide) (by decide) (by decide) (by decide) rfl (isId 1 (by decide)) (by decide) (by decide) hr (by rw [lastS_nil, hsq]; exact Nat.succ_pos _) (Q := (VM.new 1073741824).used + 20) rfl (by omega)
 exact AFn.say h2 fun _ => ⟨⟨⟨⟨4096, [], 2, 0⟩, [.add 1], [], 1, [], 0, 0, v'⟩, RT.Mid.quot (Q := (VM.new 1073741824).used + 20) (.inl ⟨⟨h1.more (by decide) (by decide) (by decide), rfl, rfl, Nat.one_pos, by show 2 ≤ 0 + 3; decide, Nat.le_refl 1⟩, by show 16 + 0 + (L.getD 0 default).size ≤ 4096; omega⟩), rfl⟩, AVE.refl _, rfl⟩
end
def atK (i : Nat) : MK := .i .u64 ((i : Nat) : Int)
def atV (p : Nat × Nat) : IV := .agg [.v (.int .u32 p.1), .v (.int .u32 p.2)]
def atM (A : List (Nat × Nat)) : List (MK × IV) := (List.range A.length).map fun j => (atK (j + 1), atV (A.getD j default))
theorem atM_snoc (A : List (Nat × Nat)) (p : Nat × Nat) : atM (A ++ [p]) = atM A ++ [(atK (A.length + 1), atV p)] := by
 unfold atM
 rw [List.length_append]
 show (List.range (A.length + 1)).map _ = _
 rw [List.range_succ, List.map_append]
 congr 1
 ·refine List.map_congr_left fun j hj => ?_
  rw [List.getD_eq_getElem?_getD, List.getElem?_append_left (List.mem_range.1 hj), ← List.getD_eq_getElem?_getD]
 ·show [(atK (A.length + 1), atV ((A ++ [p]).getD A.length default))] = _
  simp [List.getD]
theorem atM_put (A : List (Nat × Nat)) (p : Nat × Nat) : mput (atM A) (atK (A.length + 1)) (atV p) = atM (A ++ [p]) := by
 rw [atM_snoc, mput_new]
 intro q hq e
 unfold atM at hq
 obtain ⟨j, hj, rfl⟩ := List.mem_map.1 hq
 have hj := List.mem_range.1 hj
 unfold atK at e
 simp only [MK.i.injEq, true_and] at e
 omega
theorem atM_find : ∀ {A : List (Nat × Nat)} {j : Nat}, j < A.length → mfind (atM A) (atK (j + 1)) = some (atV (A.getD j default)) := by
 intro A j hj
 unfold mfind atM
 rw [List.find?_map]
 have e : ((fun p : MK × IV => decide (p.1 = atK (j + 1))) ∘ fun x : Nat => (atK (x + 1), atV (A.getD x default))) = fun x => decide (x = j) := by
  funext x
  simp only [Function.comp]
  have : (atK (x + 1) = atK (j + 1)) ↔ x = j := by
   unfold atK
   simp only [MK.i.injEq, true_and]
   omega
  simp only [this]
 rw [e]
 have hf : (List.range A.length).find? (fun x => decide (x = j)) = some j := by
  have hm : j ∈ List.range A.length := List.mem_range.2 hj
  cases hc : (List.range A.length).find? (fun x => decide (x = j)) with
  | none =>
    have := List.find?_eq_none.1 hc j hm
    simp at this
  | some x =>
    have := List.find?_some hc
    simp only [decide_eq_true_eq] at this
    rw [this]
 rw [hf]
 rfl
end Go.Proofs.YtgfkepebfaiepaaGreatDoor.Ax

namespace Go.Proofs.YtgfkepebfaiepaaGreatDoor.Ax
open Go.RowKit
set_option maxRecDepth 100000
section
variable (g : RG) (hd : List Ed) (left : Int) {v v' : VM} {s s' : SG}
theorem rollSafeC_fn : AFn Go.Proofs.Tryz.prog 27 [.ptr 1 0] (rlC g hd left v) (fun _ : Unit => AV.int .u64 g.safe) (fun _ => rlC g hd left v) := by
 refine ACall.fin ?_
 refine ACall.walk (C := cfg 9 5) (cfgOk _ _) [] (fn := Go.Proofs.Tryz.f27) (by kernel_rfl) (by kernel_rfl) rfl (by kernel_rfl) (by kernel_rfl) rfl rfl ?_
 refine goA ?_
 refine AFn.useA [0, 1, 2, 3, 4] (noneC_ok g hd left v) fun _ => ?_
 refine goA ?_
 refine ⟨_, _, Ent.mk' (e' := [(0, AV.int .u64 g.safe)]) (H' := rlC g hd left v) [some 0, some 1, some 2, some 3, some 4] (by kernel_rfl) ?_ ?_, (), rfl, rfl⟩
 ·exact ⟨AVE.refl _, trivial⟩
 ·exact subC
theorem restC_ok : AFn Go.Proofs.Tryz.prog 83 [.ptr 1 0, earA] (rlC g hd left v) (fun _ : Unit => AV.int .i64 0) (fun _ => rlC g hd left v) := by
 refine ACall.fin ?_
 refine ACall.walk (C := cfg 44 5) (cfgOk _ _) sch83 (fn := Go.Proofs.Tryz.f83) (by kernel_rfl) (by kernel_rfl) rfl (by kernel_rfl) (by kernel_rfl) rfl rfl ?_
 refine goA ?_
 refine ⟨_, _, Ent.mk' (e' := [(0, AV.int .i64 0)]) (H' := rlC g hd left v) [some 0, some 1, some 2, some 3, some 4] (by kernel_rfl) ?_ ?_, (), rfl, rfl⟩
 ·exact ⟨AVE.refl _, trivial⟩
 ·exact subC
theorem rollRestC_ok : AFn Go.Proofs.Tryz.prog 26 [.ptr 1 0, earA] (rlC g hd left v) (fun _ : Unit => AV.int .i64 0) (fun _ => rlC g hd left v) := by
 refine ACall.fin ?_
 refine ACall.walk (C := cfg 14 5) (cfgOk _ _) [] (fn := Go.Proofs.Tryz.f26) (by kernel_rfl) (by kernel_rfl) rfl (by kernel_rfl) (by kernel_rfl) rfl rfl ?_
 refine goA ?_
 refine AFn.useA [0, 1, 2, 3, 4] (noneC_ok g hd left v) fun _ => ?_
 refine goA ?_
 refine AFn.useA [0, 1, 2, 3, 4] (restC_ok g hd left) fun _ => ?_
 refine goA ?_
 refine ⟨_, _, Ent.mk' (e' := [(0, AV.int .i64 0)]) (H' := rlC g hd left v) [some 0, some 1, some 2, some 3, some 4] (by kernel_rfl) ?_ ?_, (), rfl, rfl⟩
 ·exact ⟨AVE.refl _, trivial⟩
 ·exact subC
end
end Go.Proofs.YtgfkepebfaiepaaGreatDoor.Ax

namespace Go.Proofs.YtgfkepebfaiepaaGreatDoor.Ax
open Go.RowKit
set_option maxRecDepth 100000
noncomputable def cfgR0 (N b : Nat) : Cfg := { P := Go.Proofs.Tryz.prog, T := tt, cuts := [3035], wr := false, N := N, pure := (cfgRl 0 0).pure, base := b, frz := frzF }
theorem cfgR0Ok (N b : Nat) : (cfgR0 N b).Ok := ⟨ttOk, ttBytes, by kernel_rfl⟩
@[reducible] def rfC (p : Nat × VM) : AH := ⟨6, [(0, .sem (fsV p.2)), (1, rollP ⟨4096, [], p.1, 0⟩ 2 AV.nilPtr), (2, sealsP ⟨4096, [], p.1, 0⟩), (3, earP 4 [] (-1)), (4, hdP []), (5, .map (some .u64) [])]⟩
@[reducible] def rfO (t : RT) : AH := ⟨7, [(0, .sem (fsV t.v)), (1, rollP t.g 2 (.ptr 5 0)), (2, sealsP t.g), (3, earP 4 t.hd (-1)), (4, hdP t.hd), (5, segP t.sg), (6, .map (some .u64) (atM (locsOf t.S)))]⟩
theorem atM_seq {A : List (Nat × Nat)} {r : Rec} {j : Nat} (h : r.seq = j + 1) (hj : j < A.length) : mfind (atM A) (.i .u64 ((r.seq : Nat) : Int)) = some (atV (A.getD j default)) := by
 rw [h]
 exact atM_find hj
theorem atM_putR {A : List (Nat × Nat)} {r : Rec} (h : r.seq = A.length + 1) (p : Nat × Nat) : mput (atM A) (.i .u64 ((r.seq : Nat) : Int)) (.agg [.v (.int .u32 p.1), .v (.int .u32 p.2)]) = atM (A ++ [p]) := by
 rw [h]
 exact atM_put A p
theorem AVE.locI (p : Nat × Nat) : AVE (.iv (atV p)) (locA p.1 p.2) := ⟨fun ρ ι v h => by
 unfold atV at h
 simp only [AV.R, IV.R] at h
 obtain ⟨vs, rfl, h⟩ := h
 show (AV.agg ([IV.v (.int .u32 p.1), IV.v (.int .u32 p.2)].map AV.iv)).R ρ ι _
 simp only [AV.R]
 exact ⟨vs, rfl, (Rs_iv _ _).2 h⟩⟩
theorem refused_end {L : List Rec} (hN : Numd L) (hL : L.length ≤ 60) {s : RT} (h : s.At L L.length) :
 AWP (cfgRl 200 0) (tailC 9 (bodyOf Go.Proofs.Tryz.f4)) [(0, recsA L), (9, .ptr 1 0), (11, .ptr 3 0)] (rlO s.g s.hd (-1) s.v s.sg) (LawQ Go.Proofs.Tryz.f4) := by
 have hri := h.ri
 rw [List.take_length] at hri
 have hfw := RT.In.few h
 have hhd := RT.In.hdl h
 have hl0 : lastS L = L.length := lastS_num hN
 have hlast : lastR (lastS s.l) s.g.sealed = lastS L := by rw [h.gs]; exact hri.last
 have hsl : s.g.sealed.length ≤ 60 := by rw [h.gs, sealsOf_len]; omega
 have hall : lastR 0 (s.g.sealed ++ [sealS s.id s.l]) = lastS L := by
  rw [h.gs, ← sealsOf_snoc s.d s.id s.l s.c]
  exact hri.last0
 have fS := sync_fn hri (by omega) (by omega) (by omega) s.sf
 have fR := rollRestP_ok s.g s.hd (-1) (by omega) (by omega) (by decide) (by decide) fS
 rw [show lastR (segA s.id s.l (lastS s.l)).s.last s.g.sealed = L.length from hlast.trans hl0, show (segA s.id s.l (lastS s.l)).s = sealS s.id s.l from rfl] at fR
 rw [hl0] at hall
 have hgl2 : (s.g.sealed ++ [sealS s.id s.l]).length ≤ 1000 := by
  rw [List.length_append]
  show s.g.sealed.length + 1 ≤ 1000
  omega
 generalize hG : ({ s.g with sealed := s.g.sealed ++ [sealS s.id s.l], safe := L.length } : RG) = G at fR
 have g1 : G.safe = L.length := by rw [← hG]
 have g2 : lastR 0 G.sealed = L.length := by rw [← hG]; exact hall
 have g3 : G.sealed.length ≤ 1000 := by rw [← hG]; exact hgl2
 generalize s.hd ++ [Ed.shut (sealS s.id s.l)] = hd2 at fR
 generalize s.v.sync (segName s.id) = v2 at fR
 have fF := rollSafeC_fn G hd2 (max (-1 - 1) (-1)) (v := v2)
 have fL := lastC_ok G hd2 (max (-1 - 1) (-1)) v2 g3
 rw [g1] at fF
 rw [g2] at fL
 refine AWP.go (S := sch4) (cfgRlOk _ _) (.of_eq (by kernel_rfl)) ?_
 refine goA ?_
 refine AFn.useA [0, 1, 2, 3, 4, 5] (fR) fun _ => ?_
 refine goA ?_
 refine AFn.useA [0, 1, 6, 3, 7] (fF) fun _ => ?_
 refine goA ?_
 refine AFn.useA [0, 1, 6, 3, 7] (fL) fun _ => ?_
 refine goA ?_
 rw [decide_eq_true (show ((L.length : Nat) : Int) = (L.length : Int) from rfl)]
 refine goA ?_
 refine AFn.useA [0, 1, 6, 3, 7] (fL) fun _ => ?_
 refine goA ?_
 rw [decide_eq_true (show ((L.length : Nat) : Int) = (L.length : Int) from rfl)]
 refine ⟨_, _, Ent.mk' (e' := [(0, AV.bool true)]) (H' := ⟨0, []⟩) [] (by kernel_rfl) ?_ ?_, (), rfl, rfl⟩
 ·exact ⟨AVE.refl _, trivial⟩
 ·trivial
theorem refused_endC {p : Nat × VM} :
 AWP (cfgRl 200 0) (tailC 9 (bodyOf Go.Proofs.Tryz.f4)) [(0, recsA []), (9, .ptr 1 0), (11, .ptr 3 0)] (rlC ⟨4096, [], p.1, 0⟩ [] (-1) p.2) (LawQ Go.Proofs.Tryz.f4) := by
 have fR := rollRestC_ok ⟨4096, [], p.1, 0⟩ [] (-1) (v := p.2)
 have fF := rollSafeC_fn ⟨4096, [], p.1, 0⟩ [] (-1) (v := p.2)
 have fL := lastC_ok ⟨4096, [], p.1, 0⟩ [] (-1) p.2 (by show ([] : List Sl).length ≤ 1000; decide)
 refine AWP.go (S := sch4) (cfgRlOk _ _) (.of_eq (by kernel_rfl)) ?_
 refine goA ?_
 refine AFn.useA [0, 1, 2, 3, 4] (fR) fun _ => ?_
 refine goA ?_
 refine AFn.useA [0, 1, 2, 3, 4] (fF) fun _ => ?_
 refine goA ?_
 refine AFn.useA [0, 1, 2, 3, 4] (fL) fun _ => ?_
 refine goA ?_
 refine AFn.useA [0, 1, 2, 3, 4] (fL) fun _ => ?_
 refine goA ?_
 refine ⟨_, _, Ent.mk' (e' := [(0, AV.bool true)]) (H' := ⟨0, []⟩) [] (by kernel_rfl) ?_ ?_, (), rfl, rfl⟩
 ·exact ⟨AVE.refl _, trivial⟩
 ·trivial
theorem refused_tailC {p : Nat × VM} :
 AWP (cfgR0 200 0) (tailC 8 (bodyOf Go.Proofs.Tryz.f4)) [(0, recsA []), (9, .ptr 1 0), (11, .ptr 3 0), (12, .mp 5)] (rfC p) (LawQ Go.Proofs.Tryz.f4) := by
 refine AWP.go (S := sch4) (cfgR0Ok _ _) (.of_eq (by kernel_rfl)) ?_
 refine goA ?_
 refine AWP.loop (X := Unit) (fun i => [(0, recsA []), (9, .ptr 1 0), (11, .ptr 3 0), (12, .mp 5), (156, recsA []), (157, AV.int .i64 0), (158, AV.int .i64 0)]) (fun i => rfC p) (fun i => 0) (()) ?_ fun i => AWP.go (S := sch4) (cfgR0Ok _ _) (.of_eq (by kernel_rfl)) ?_
 ·exact Ent.mkA [some 0, some 1, some 2, some 3, some 4, some 5]
 ·refine goA ?_
  exact ⟨(AWP.of_ent (C := cfgRl 200 0) (Ent.mkA [some 0, some 1, some 2, some 3, some 4]) (refused_endC (p := p))).run⟩
theorem refused_tail {L : List Rec} (hN : Numd L) (hL : L.length ≤ 60) {s : RT} (h : s.At L L.length) :
 AWP (cfgR0 200 0) (tailC 8 (bodyOf Go.Proofs.Tryz.f4)) [(0, recsA L), (9, .ptr 1 0), (11, .ptr 3 0), (12, .mp 6)] (rfO s) (LawQ Go.Proofs.Tryz.f4) := by
 have hri := h.ri
 rw [List.take_length] at hri
 have hfw := RT.In.few h
 have hRd := fun i (hi : i < L.length) => roll_read s.g s.hd (-1) (sf := s.sf) hri (by decide) (by omega) h.gs (by omega) hi
 have hlen : (locsOf s.S).length = L.length := by
  unfold RT.S
  rw [locsOf_len, hri.recs]
 refine AWP.go (S := sch4) (cfgR0Ok _ _) (.of_eq (by kernel_rfl)) ?_
 refine goA ?_
 refine AWP.loop (X := { i : Nat // i ≤ L.length }) (fun i => [(0, recsA L), (9, .ptr 1 0), (11, .ptr 3 0), (12, .mp 6), (156, recsA L), (157, AV.int .i64 L.length), (158, AV.int .i64 i.1)]) (fun i => rfO s) (fun i => L.length - i.1) (⟨0, Nat.zero_le _⟩) ?_ fun i => AWP.go (S := sch4) (cfgR0Ok _ _) (.of_eq (by kernel_rfl)) ?_
 ·exact Ent.mkA [some 0, some 1, some 2, some 3, some 4, some 5, some 6]
 ·obtain ⟨i, hi⟩ := i
  dsimp only
  refine goA ?_
  refine ifdA (fun h1 => ?_) (fun h1 => ?_) <;> (try dsimp only at h1)
  ·have hlt : i < L.length := by omega
   have hsm := recSame_ok (L.getD i default) (L.getD i default) (May.B (hN.getMay hlt)) (May.B (hN.getMay hlt))
   rw [decide_eq_true rfl] at hsm
   have hfi := atM_seq (A := locsOf s.S) (hN.seq i hlt) (by omega)
   refine goA ?_
   refine ⟨fun y hy => ?_, fun hy => ?_⟩
   ·have hy : Option.map AV.iv (mfind (atM (locsOf s.S)) (.i .u64 (((L.getD i default).seq : Nat) : Int))) = some y := hy
    rw [hfi] at hy
    cases hy
    refine goA ?_
    refine ACall.argsE [.ptr 1 0, locA ((locsOf s.S).getD i default).1 ((locsOf s.S).getD i default).2] ⟨AVE.refl _, AVE.locI _, rfl⟩ ?_
    refine AFn.useA [0, 1, 2, 3, 4, 5] (hRd i hlt) fun _ => ?_
    refine goA ?_
    refine AFn.useA [] (hsm) fun _ => ?_
    refine goA ?_
    refine ⟨⟨i + 1, hlt⟩, Ent.mkA [some 0, some 1, some 2, some 3, some 4, some 5, some 6], ?_⟩
    show L.length - (i + 1) < L.length - i
    omega
   ·have hy : Option.map AV.iv (mfind (atM (locsOf s.S)) (.i .u64 (((L.getD i default).seq : Nat) : Int))) = none := hy
    rw [hfi] at hy
    cases hy
  ·refine goA ?_
   exact ⟨(AWP.of_ent (C := cfgRl 200 0) (Ent.mkA [some 0, some 1, some 2, some 3, some 4, some 5]) (refused_end hN hL h)).run⟩
end Go.Proofs.YtgfkepebfaiepaaGreatDoor.Ax

namespace Go.Proofs.YtgfkepebfaiepaaGreatDoor.Ax
open Go.RowKit
set_option maxRecDepth 100000
noncomputable def cfgR1 (N b : Nat) : Cfg := { P := Go.Proofs.Tryz.prog, T := tt, cuts := [3012, 3016, 3023, 3028], wr := false, N := N, pure := (cfgRl 0 0).pure, base := b, frz := frzF }
theorem cfgR1Ok (N b : Nat) : (cfgR1 N b).Ok := ⟨ttOk, ttBytes, by kernel_rfl⟩
noncomputable def cfgR2 (N b : Nat) : Cfg := { P := Go.Proofs.Tryz.prog, T := tt, cuts := [3016, 3023], wr := false, N := N, pure := (cfgRl 0 0).pure, base := b, frz := frzF }
theorem cfgR2Ok (N b : Nat) : (cfgR2 N b).Ok := ⟨ttOk, ttBytes, by kernel_rfl⟩
noncomputable def cfgR3 (N b : Nat) : Cfg := { P := Go.Proofs.Tryz.prog, T := tt, cuts := [3023], wr := false, N := N, pure := (cfgRl 0 0).pure, base := b, frz := frzF }
theorem cfgR3Ok (N b : Nat) : (cfgR3 N b).Ok := ⟨ttOk, ttBytes, by kernel_rfl⟩
def bF (B : List Bool) (i : Nat) : List IV := [.v (.bool (B.getD i false))]
@[reducible] def bRow (B : List Bool) : IV := .sl 1 B.length (bF B)
inductive TW (L : List Rec) where
 | none : TW L
 | at (i : Nat) (t : RT) (hi : i ≤ L.length) (h : t.At L i) : TW L
def TW.i {L : List Rec} : TW L → Nat
 | .none => 0
 | .at i .. => i
def TW.m {L : List Rec} : TW L → Nat
 | .none => 5
 | .at .. => 6
def TW.H {L : List Rec} : TW L → AH
 | .none => rfC (1, VM.new 1073741824)
 | .at _ t .. => rfO t
@[reducible] def rfE (L : List Rec) (ea qu : List Bool) (m h i : Nat) : Env := [(0, recsA L), (1, .iv (bRow ea)), (2, .iv (bRow qu)), (7, .ptr 0 0), (9, .ptr 1 0), (11, .ptr 3 0), (12, .mp m), (13, AV.int .i64 i), (14, .ptr h 0), (49, recsA L), (50, AV.int .i64 L.length), (51, AV.int .i64 i)]
@[reducible] def rfF (L : List Rec) (ea qu : List Bool) (m h i : Nat) : Env := [(0, recsA L), (1, .iv (bRow ea)), (2, .iv (bRow qu)), (7, .ptr 0 0), (9, .ptr 1 0), (11, .ptr 3 0), (12, .mp m), (13, AV.int .i64 i), (14, .ptr h 0), (15, AV.int .u64 i), (49, recsA L), (50, AV.int .i64 L.length), (51, AV.int .i64 i)]
@[reducible] def rfQ (t : RT) (left : Int) (A : List (Nat × Nat)) (r : Rec) : AH := ⟨8, [(0, .sem (fsV t.v)), (1, rollP t.g 2 (.ptr 5 0)), (2, sealsP t.g), (3, earP 4 t.hd left), (4, hdP t.hd), (5, segP t.sg), (6, .map (some .u64) (atM A)), (7, boxR r)]⟩
@[reducible] def rfP (p : Nat × VM) (left : Int) (r : Rec) : AH := ⟨7, [(0, .sem (fsV p.2)), (1, rollP ⟨4096, [], p.1, 0⟩ 2 AV.nilPtr), (2, sealsP ⟨4096, [], p.1, 0⟩), (3, earP 4 [] left), (4, hdP []), (5, .map (some .u64) []), (6, boxR r)]⟩
theorem atM_put2 {A B : List (Nat × Nat)} {r : Rec} {p : Nat × Nat} {i : Nat} (h : A.length = i) (hr : r.seq = i + 1) (hB : B = A ++ [p]) : mput (atM A) (.i .u64 ((r.seq : Nat) : Int)) (.agg [.v (.int .u32 p.1), .v (.int .u32 p.2)]) = atM B := by
 rw [atM_putR (by rw [h]; exact hr), hB]
theorem atM_ch {m m' : List (MK × IV)} {kk : Option IntKind} (h : m = m') : ChE (.map kk m) (.map kk m') := by
 rw [h]
 exact ChE.refl _
set_option maxHeartbeats 4000000 in
theorem rollRefused_law (l : List Rec) (hl : l.length ≤ 9223372036854775807 ∧ ∀ r ∈ l, r.W) (ea : List Bool) (hea : ea.length ≤ 9223372036854775807) (qu : List Bool) (_hqu : qu.length ≤ 9223372036854775807) : Law Go.Proofs.Tryz.prog 4 [recsA l, .iv (bRow ea), .iv (bRow qu)] := by
 have hnum := numbered60_ok l hl.1 hl.2
 obtain ⟨hN, hL⟩ := numb_ok (cap := 60) l [] Numd.nil (Nat.zero_le _)
 have hN : Numd (numb 60 l) := hN
 have hL : (numb 60 l).length ≤ 60 := hL
 generalize numb 60 l = L at *
 refine ACall.fin ?_
 refine ACall.walk (C := cfgR1 200 0) (cfgR1Ok _ _) sch4 (fn := Go.Proofs.Tryz.f4) (by kernel_rfl) (by kernel_rfl) rfl (by kernel_rfl) (by kernel_rfl) rfl rfl ?_
 refine goA ?_
 refine AFn.useA [] (hnum) fun _ => ?_
 refine goA ?_
 refine AFn.useA [] (new_fs 1073741824 (by decide)) fun _ => ?_
 refine goA ?_
 refine AFn.useA [0] (rollNew_ok 4096 1 (by decide) (VM.new 1073741824)) fun _ => ?_
 refine goA ?_
 refine AFn.useA [] (wakes13_ok) fun _ => ?_
 refine goA ?_
 refine AWP.loop (X := TW L) (fun x => [(0, recsA L), (1, .iv (bRow ea)), (2, .iv (bRow qu)), (7, .ptr 0 0), (9, .ptr 1 0), (11, .ptr 3 0), (12, .mp x.m), (49, recsA L), (50, AV.int .i64 L.length), (51, AV.int .i64 x.i)]) (fun x => x.H) (fun x => L.length - x.i) (TW.none) ?_ fun x => AWP.go (S := sch4) (cfgR1Ok _ _) (.of_eq (by kernel_rfl)) ?_
 ·refine (HEnt.ent (HEnt.addNil 105 5 (edF []))).trans ?_
  exact Ent.mk' (H' := rfC (1, VM.new 1073741824)) [some 0, some 1, some 2, some 3, some 5, some 4] (by kernel_rfl) ⟨AVE.refl _, AVE.refl _, AVE.refl _, AVE.refl _, AVE.refl _, AVE.refl _, AVE.refl _, AVE.refl _, AVE.refl _, AVE.refl _, trivial⟩ ⟨⟨_, rfl, ChE.refl _⟩, ⟨_, rfl, ChE.refl _⟩, ⟨_, rfl, ChE.refl _⟩, ⟨_, rfl, ChE.cells (by exact ⟨AVE.nil _ _, AVE.refl _, rfl⟩)⟩, ⟨_, rfl, ChE.refl _⟩, ⟨_, rfl, ChE.refl _⟩, trivial⟩
 ·rcases x with _ | ⟨i, s, hi, hs⟩
  ·dsimp only [TW.i, TW.m]
   refine goA ?_
   refine ifdA (fun h => ?_) (fun h => ?_) <;> (try dsimp only at h)
   ·have hlt : 0 < L.length := by omega
    have hsq : (L.getD 0 default).seq = 0 + 1 := hN.seq 0 hlt
    apply AWP.aheadX (X := { t : RT // t.Mid 1073741824 L 0 ∧ locsOf t.S = [] }) (C := cfgRl 200 0) (fun _ => rfE L ea qu 6 7 0) (fun t => rfQ t.1 (-1) [] (L.getD 0 default))
    ·intro keyO
     apply AWP.aheadX (X := { p : Nat × VM // RC p }) (C := cfgRl 200 0) (fun _ => rfE L ea qu 5 6 0) (fun p => rfP p.1 (-1) (L.getD 0 default))
     ·intro key
      apply AWP.aheadX (X := { b : Bool // b = true ↔ (0 < ea.length ∧ ea.getD 0 false = true) }) (C := cfgR2 200 0) (fun _ => rfE L ea qu 5 6 0) (fun _ => rfP (1, VM.new 1073741824) (-1) (L.getD 0 default))
      ·intro key2
       refine goA ?_
       refine ifdA (fun q1 => ?_) (fun q1 => ?_) <;> (try dsimp only at q1)
       ·refine goA ?_
        refine ifdA (fun q2 => ?_) (fun q2 => ?_) <;> (try dsimp only at q2)
        ·refine goA ?_
         exact ⟨(AWP.of_ent (C := cfgR2 200 0) (Ent.mkA [some 0, some 1, some 2, some 3, some 4, some 5, some 6]) (key2 ⟨true, ⟨fun _ => ⟨by omega, q2⟩, fun _ => rfl⟩⟩)).run⟩
        ·refine goA ?_
         refine ifdA (fun q3 => ?_) (fun q3 => ?_) <;> (try dsimp only at q3)
         ·refine goA ?_
          refine ifdA (fun q4 => ?_) (fun q4 => ?_) <;> (try dsimp only at q4)
          ·refine goA ?_
           exact ⟨(AWP.of_ent (C := cfgR2 200 0) (Ent.mkA [some 0, some 1, some 2, some 3, some 4, some 5, some 6]) (key2 ⟨false, ⟨fun h => (by cases h), fun h => absurd (h.2.symm.trans q2) (by decide)⟩⟩)).run⟩
          ·refine goA ?_
           exact ⟨(AWP.of_ent (C := cfgRl 200 0) (Ent.mkA [some 0, some 1, some 2, some 3, some 4, some 5, some 6]) (key ⟨(1, VM.new 1073741824), RC.new⟩)).run⟩
         ·refine goA ?_
          exact ⟨(AWP.of_ent (C := cfgRl 200 0) (Ent.mkA [some 0, some 1, some 2, some 3, some 4, some 5, some 6]) (key ⟨(1, VM.new 1073741824), RC.new⟩)).run⟩
       ·refine goA ?_
        refine ifdA (fun q3 => ?_) (fun q3 => ?_) <;> (try dsimp only at q3)
        ·refine goA ?_
         refine ifdA (fun q4 => ?_) (fun q4 => ?_) <;> (try dsimp only at q4)
         ·refine goA ?_
          exact ⟨(AWP.of_ent (C := cfgR2 200 0) (Ent.mkA [some 0, some 1, some 2, some 3, some 4, some 5, some 6]) (key2 ⟨false, ⟨fun h => (by cases h), fun h => absurd h.1 (by omega)⟩⟩)).run⟩
         ·refine goA ?_
          exact ⟨(AWP.of_ent (C := cfgRl 200 0) (Ent.mkA [some 0, some 1, some 2, some 3, some 4, some 5, some 6]) (key ⟨(1, VM.new 1073741824), RC.new⟩)).run⟩
        ·refine goA ?_
         exact ⟨(AWP.of_ent (C := cfgRl 200 0) (Ent.mkA [some 0, some 1, some 2, some 3, some 4, some 5, some 6]) (key ⟨(1, VM.new 1073741824), RC.new⟩)).run⟩
      ·intro x
       obtain ⟨b, hb⟩ := x
       have hl1 := lastC_ok ⟨4096, [], 1, 0⟩ [] (-1) (VM.new 1073741824) (by show ([] : List Sl).length ≤ 1000; decide)
       rw [show lastR 0 (⟨4096, [], 1, 0⟩ : RG).sealed = 0 from rfl] at hl1
       refine AWP.go (S := sch4) (cfgR2Ok _ _) (.of_eq (by kernel_rfl)) ?_
       refine goA ?_
       refine AFn.useA [0, 1, 2, 3, 4] (hl1) fun _ => ?_
       cases b with
       | true =>
         obtain ⟨e1, e2⟩ := hb.1 rfl
         refine goA ?_
         refine ifdA (fun q1 => ?_) (fun q1 => ?_) <;> (try dsimp only at q1)
         ·refine goA ?_
          refine ifdA (fun q2 => ?_) (fun q2 => ?_) <;> (try dsimp only at q2)
          ·refine goA ?_
           refine ⟨AWP.run (C := cfgR3 200 0) (AWP.go (S := sch4) (cfgR3Ok _ _) (.of_eq (by kernel_rfl)) ?_)⟩
           refine goA ?_
           refine AFn.useA [0, 1, 2, 3, 4] (RC.deaf hN hlt) fun y => ?_
           obtain ⟨v, hv⟩ := y
           have hl2 := lastC_ok ⟨4096, [], 2, 0⟩ [] 0 v (by show ([] : List Sl).length ≤ 1000; decide)
           rw [show lastR 0 (⟨4096, [], 2, 0⟩ : RG).sealed = 0 from rfl] at hl2
           refine goA ?_
           refine AFn.useA [0, 1, 2, 3, 4] (hl2) fun _ => ?_
           refine goA ?_
           refine AFn.useA [0] (fsQuota (v := v) ((1073741824 : Nat) : Int) (by decide)) fun _ => ?_
           refine goA ?_
           exact ⟨(AWP.of_ent (C := cfgRl 200 0) (Ent.mkA [some 0, some 1, some 2, some 3, some 4, some 5, some 6]) (key ⟨(2, v.quot ((1073741824 : Nat) : Int)), hv⟩)).run⟩
          ·exact absurd (e2.symm.trans q2) (by decide)
         ·exfalso; omega
       | false =>
         have hri := (RB.new (lim := 4096) (fst := 1) (Nat.le_refl 1)).ri
         have hu := used_le hri.ok
         have hu : (VM.new 1073741824).used ≤ 128 := hu
         have fU := fsUsed hri.ok (by decide) (by decide) hri.up.off
         have fQ := fsQuota (v := VM.new 1073741824) (((VM.new 1073741824).used : Int) + 20) ⟨by omega, by omega⟩
         have fP := RC.poor hN hlt (q := ((VM.new 1073741824).used : Int) + 20) rfl
         generalize (VM.new 1073741824).used = us at *
         apply AWP.aheadX (X := Unit) (C := cfgR3 200 0) (fun _ => rfF L ea qu 5 6 0) (fun _ => rfP (1, (VM.new 1073741824).quot ((us : Int) + 20)) (-1) (L.getD 0 default))
         ·intro key3
          refine goA ?_
          refine ifdA (fun q1 => ?_) (fun q1 => ?_) <;> (try dsimp only at q1)
          ·refine goA ?_
           refine ifdA (fun q2 => ?_) (fun q2 => ?_) <;> (try dsimp only at q2)
           ·exact absurd (hb.2 ⟨by omega, q2⟩) (by decide)
           ·refine goA ?_
            refine AFn.useA [0] (fU) fun _ => ?_
            refine goA ?_
            refine AFn.useA [0] (fQ) fun _ => ?_
            refine goA ?_
            exact ⟨(AWP.of_ent (C := cfgR3 200 0) (Ent.mkA [some 0, some 1, some 2, some 3, some 4, some 5, some 6]) (key3 ())).run⟩
          ·refine goA ?_
           refine AFn.useA [0] (fU) fun _ => ?_
           refine goA ?_
           refine AFn.useA [0] (fQ) fun _ => ?_
           refine goA ?_
           exact ⟨(AWP.of_ent (C := cfgR3 200 0) (Ent.mkA [some 0, some 1, some 2, some 3, some 4, some 5, some 6]) (key3 ())).run⟩
         ·intro _
          refine AWP.go (S := sch4) (cfgR3Ok _ _) (.of_eq (by kernel_rfl)) ?_
          refine goA ?_
          refine AFn.useA [0, 1, 2, 3, 4] (fP) fun y => ?_
          obtain ⟨t, ht, hloc⟩ := y
          have hlt2 : lastR t.sg.s.last t.g.sealed = 0 := RT.Mid.last (s := t.quot) ht hN (Nat.zero_le _)
          have hsl2 : t.g.sealed.length ≤ 1000 := RT.Mid.few (s := t.quot) ht (by decide)
          refine goA ?_
          refine AFn.useA [0, 1, 2, 3, 8, 7] (lastO_ok t.g t.hd (-1) t.v t.sg hsl2) fun _ => ?_
          rw [hlt2]
          refine goA ?_
          refine AFn.useA [0] (fsQuota (v := t.v) ((1073741824 : Nat) : Int) (by decide)) fun _ => ?_
          refine goA ?_
          exact ⟨(AWP.of_ent (C := cfgRl 200 0) (Ent.mkA [some 0, some 1, some 2, some 3, some 8, some 7, some 5, some 6]) (keyO ⟨t.quot, ht, hloc⟩)).run⟩
     ·intro x
      obtain ⟨p, hp⟩ := x
      refine AWP.go (S := sch4) (cfgRlOk _ _) (.of_eq (by kernel_rfl)) ?_
      refine goA ?_
      refine AFn.useA [0, 1, 2, 3, 4] (RC.goes hp hN hlt) fun y => ?_
      obtain ⟨u, hu, hl2⟩ := y
      have hlu : lastR u.sg.s.last u.g.sealed = 0 + 1 := (RT.In.last hu).trans (lastS_take hN (by omega))
      have hsu : u.g.sealed.length ≤ 1000 := by rw [hu.gs, sealsOf_len]; have := RT.In.few hu; omega
      have hm := atM_put2 (A := []) (p := u.loc) rfl hsq hl2
      refine goA ?_
      refine AFn.useA [0, 1, 2, 3, 8, 7] (lastO_ok u.g u.hd (-1) u.v u.sg hsu) fun _ => ?_
      rw [hlu]
      refine goA ?_
      rw [decide_eq_false (show ¬ ((0 + 1 : Nat) : Int) ≠ ((L.getD 0 default).seq : Int) by omega)]
      refine goA ?_
      refine AWP.go (S := []) (cfgR1Ok _ _) (.of_eq (by kernel_rfl)) ?_
      refine goA ?_
      refine ⟨TW.at (0 + 1) u (by omega) hu, ?_, by show L.length - (0 + 1) < L.length - 0; omega⟩
      show Ent _ _ _ _ _ (rfO u)
      exact Ent.mk' [some 0, some 1, some 2, some 3, some 8, some 7, some 5] (by kernel_rfl) ⟨AVE.refl _, AVE.refl _, AVE.refl _, AVE.refl _, AVE.refl _, AVE.refl _, AVE.refl _, AVE.refl _, AVE.refl _, AVE.int (by show ((0 : Nat) : Int) + 1 = ((0 + 1 : Nat) : Int); omega), trivial⟩ ⟨⟨_, rfl, ChE.refl _⟩, ⟨_, rfl, ChE.refl _⟩, ⟨_, rfl, ChE.refl _⟩, ⟨_, rfl, ChE.refl _⟩, ⟨_, rfl, ChE.refl _⟩, ⟨_, rfl, ChE.refl _⟩, ⟨_, rfl, atM_ch hm⟩, trivial⟩
    ·intro x
     obtain ⟨t, ht, hloc⟩ := x
     refine AWP.go (S := sch4) (cfgRlOk _ _) (.of_eq (by kernel_rfl)) ?_
     refine goA ?_
     refine AFn.useA [0, 1, 2, 3, 4, 5] (RT.goes ht hN hlt hL) fun y => ?_
     obtain ⟨⟨b, u⟩, hu, hl2⟩ := y
     have hlu : lastR u.sg.s.last u.g.sealed = 0 + 1 := (RT.In.last hu).trans (lastS_take hN (by omega))
     have hsu : u.g.sealed.length ≤ 1000 := by rw [hu.gs, sealsOf_len]; have := RT.In.few hu; omega
     have hm := atM_put2 (A := []) (p := u.loc) rfl hsq (hl2.trans (by rw [hloc]))
     cases b
     ·refine goA ?_
      refine AFn.useA [0, 1, 2, 3, 4, 5] (lastO_ok u.g u.hd (-1) u.v u.sg hsu) fun _ => ?_
      rw [hlu]
      refine goA ?_
      rw [decide_eq_false (show ¬ ((0 + 1 : Nat) : Int) ≠ ((L.getD 0 default).seq : Int) by omega)]
      refine goA ?_
      refine AWP.go (S := []) (cfgR1Ok _ _) (.of_eq (by kernel_rfl)) ?_
      refine goA ?_
      refine ⟨TW.at (0 + 1) u (by omega) hu, ?_, by show L.length - (0 + 1) < L.length - 0; omega⟩
      show Ent _ _ _ _ _ (rfO u)
      exact Ent.mk' [some 0, some 1, some 2, some 3, some 4, some 5, some 6] (by kernel_rfl) ⟨AVE.refl _, AVE.refl _, AVE.refl _, AVE.refl _, AVE.refl _, AVE.refl _, AVE.refl _, AVE.refl _, AVE.refl _, AVE.int (by show ((0 : Nat) : Int) + 1 = ((0 + 1 : Nat) : Int); omega), trivial⟩ ⟨⟨_, rfl, ChE.refl _⟩, ⟨_, rfl, ChE.refl _⟩, ⟨_, rfl, ChE.refl _⟩, ⟨_, rfl, ChE.refl _⟩, ⟨_, rfl, ChE.refl _⟩, ⟨_, rfl, ChE.refl _⟩, ⟨_, rfl, atM_ch hm⟩, trivial⟩
     ·refine goA ?_
      refine AFn.useA [0, 1, 8, 3, 10, 9] (lastO_ok u.g u.hd (-1) u.v u.sg hsu) fun _ => ?_
      rw [hlu]
      refine goA ?_
      rw [decide_eq_false (show ¬ ((0 + 1 : Nat) : Int) ≠ ((L.getD 0 default).seq : Int) by omega)]
      refine goA ?_
      refine AWP.go (S := []) (cfgR1Ok _ _) (.of_eq (by kernel_rfl)) ?_
      refine goA ?_
      refine ⟨TW.at (0 + 1) u (by omega) hu, ?_, by show L.length - (0 + 1) < L.length - 0; omega⟩
      show Ent _ _ _ _ _ (rfO u)
      exact Ent.mk' [some 0, some 1, some 8, some 3, some 10, some 9, some 6] (by kernel_rfl) ⟨AVE.refl _, AVE.refl _, AVE.refl _, AVE.refl _, AVE.refl _, AVE.refl _, AVE.refl _, AVE.refl _, AVE.refl _, AVE.int (by show ((0 : Nat) : Int) + 1 = ((0 + 1 : Nat) : Int); omega), trivial⟩ ⟨⟨_, rfl, ChE.refl _⟩, ⟨_, rfl, ChE.refl _⟩, ⟨_, rfl, ChE.refl _⟩, ⟨_, rfl, ChE.refl _⟩, ⟨_, rfl, ChE.refl _⟩, ⟨_, rfl, ChE.refl _⟩, ⟨_, rfl, atM_ch hm⟩, trivial⟩
   ·have hz : L = [] := List.eq_nil_of_length_eq_zero (by omega)
    subst hz
    refine goA ?_
    exact ⟨(AWP.of_ent (C := cfgR0 200 0) (Ent.mkA [some 0, some 1, some 2, some 3, some 4, some 5]) (refused_tailC (p := (1, VM.new 1073741824)))).run⟩
  ·dsimp only [TW.i, TW.m]
   refine goA ?_
   refine ifdA (fun h => ?_) (fun h => ?_) <;> (try dsimp only at h)
   ·have hlt : i < L.length := by omega
    have hri := hs.ri
    have hfw := RT.In.few hs
    have hsq : (L.getD i default).seq = i + 1 := hN.seq i hlt
    have hlenA : (locsOf s.S).length = i := by
     unfold RT.S
     rw [locsOf_len, hri.recs, List.length_take]
     omega
    have hlast : lastR s.sg.s.last s.g.sealed = i := (RT.In.last hs).trans (lastS_take hN (Nat.le_of_lt hlt))
    have hsl : s.g.sealed.length ≤ 1000 := by rw [hs.gs, sealsOf_len]; omega
    apply AWP.aheadX (X := { t : RT // t.Mid 1073741824 L i ∧ locsOf t.S = locsOf s.S }) (C := cfgRl 200 0) (fun _ => rfE L ea qu 6 7 i) (fun t => rfQ t.1 (-1) (locsOf s.S) (L.getD i default))
    ·intro key
     apply AWP.aheadX (X := { b : Bool // b = true ↔ (i < ea.length ∧ ea.getD i false = true) }) (C := cfgR2 200 0) (fun _ => rfE L ea qu 6 7 i) (fun _ => rfQ s (-1) (locsOf s.S) (L.getD i default))
     ·intro key2
      refine goA ?_
      refine ifdA (fun q1 => ?_) (fun q1 => ?_) <;> (try dsimp only at q1)
      ·refine goA ?_
       refine ifdA (fun q2 => ?_) (fun q2 => ?_) <;> (try dsimp only at q2)
       ·refine goA ?_
        exact ⟨(AWP.of_ent (C := cfgR2 200 0) (Ent.mkA [some 0, some 1, some 2, some 3, some 4, some 5, some 6, some 7]) (key2 ⟨true, ⟨fun _ => ⟨by omega, q2⟩, fun _ => rfl⟩⟩)).run⟩
       ·refine goA ?_
        refine ifdA (fun q3 => ?_) (fun q3 => ?_) <;> (try dsimp only at q3)
        ·refine goA ?_
         refine ifdA (fun q4 => ?_) (fun q4 => ?_) <;> (try dsimp only at q4)
         ·refine goA ?_
          exact ⟨(AWP.of_ent (C := cfgR2 200 0) (Ent.mkA [some 0, some 1, some 2, some 3, some 4, some 5, some 6, some 7]) (key2 ⟨false, ⟨fun h => (by cases h), fun h => absurd (h.2.symm.trans q2) (by decide)⟩⟩)).run⟩
         ·refine goA ?_
          exact ⟨(AWP.of_ent (C := cfgRl 200 0) (Ent.mkA [some 0, some 1, some 2, some 3, some 4, some 5, some 6, some 7]) (key ⟨s, hs.mid, rfl⟩)).run⟩
        ·refine goA ?_
         exact ⟨(AWP.of_ent (C := cfgRl 200 0) (Ent.mkA [some 0, some 1, some 2, some 3, some 4, some 5, some 6, some 7]) (key ⟨s, hs.mid, rfl⟩)).run⟩
      ·refine goA ?_
       refine ifdA (fun q3 => ?_) (fun q3 => ?_) <;> (try dsimp only at q3)
       ·refine goA ?_
        refine ifdA (fun q4 => ?_) (fun q4 => ?_) <;> (try dsimp only at q4)
        ·refine goA ?_
         exact ⟨(AWP.of_ent (C := cfgR2 200 0) (Ent.mkA [some 0, some 1, some 2, some 3, some 4, some 5, some 6, some 7]) (key2 ⟨false, ⟨fun h => (by cases h), fun h => absurd h.1 (by omega)⟩⟩)).run⟩
        ·refine goA ?_
         exact ⟨(AWP.of_ent (C := cfgRl 200 0) (Ent.mkA [some 0, some 1, some 2, some 3, some 4, some 5, some 6, some 7]) (key ⟨s, hs.mid, rfl⟩)).run⟩
       ·refine goA ?_
        exact ⟨(AWP.of_ent (C := cfgRl 200 0) (Ent.mkA [some 0, some 1, some 2, some 3, some 4, some 5, some 6, some 7]) (key ⟨s, hs.mid, rfl⟩)).run⟩
     ·intro x
      obtain ⟨b, hb⟩ := x
      refine AWP.go (S := sch4) (cfgR2Ok _ _) (.of_eq (by kernel_rfl)) ?_
      refine goA ?_
      refine AFn.useA [0, 1, 2, 3, 4, 5] (lastO_ok s.g s.hd (-1) s.v s.sg hsl) fun _ => ?_
      rw [hlast]
      cases b with
      | true =>
        obtain ⟨e1, e2⟩ := hb.1 rfl
        refine goA ?_
        refine ifdA (fun q1 => ?_) (fun q1 => ?_) <;> (try dsimp only at q1)
        ·refine goA ?_
         refine ifdA (fun q2 => ?_) (fun q2 => ?_) <;> (try dsimp only at q2)
         ·refine goA ?_
          refine ⟨AWP.run (C := cfgR3 200 0) (AWP.go (S := sch4) (cfgR3Ok _ _) (.of_eq (by kernel_rfl)) ?_)⟩
          refine goA ?_
          by_cases hs2 : offAt s.l s.l.length + (L.getD i default).size ≤ 4096
          ·refine AFn.useA [0, 1, 2, 3, 4, 5] (RT.deafRoom hs hN hlt hL hs2) fun y => ?_
           obtain ⟨u, hu, hl2⟩ := y
           refine goA ?_
           refine AFn.useA [0] (fsQuota (v := u.v) ((1073741824 : Nat) : Int) (by decide)) fun _ => ?_
           refine goA ?_
           refine AWP.go (S := []) (cfgR1Ok _ _) (.of_eq (by kernel_rfl)) ?_
           refine goA ?_
           have hm := atM_put2 (p := u.loc) hlenA hsq hl2
           refine ⟨TW.at (i + 1) u.quot (by omega) hu.quot, ?_, by show L.length - (i + 1) < L.length - i; omega⟩
           show Ent _ _ _ _ _ (rfO u.quot)
           exact Ent.mk' [some 0, some 1, some 2, some 3, some 4, some 5, some 6] (by kernel_rfl) ⟨AVE.refl _, AVE.refl _, AVE.refl _, AVE.refl _, AVE.refl _, AVE.refl _, AVE.refl _, AVE.refl _, AVE.refl _, AVE.int (by show ((i : Nat) : Int) + 1 = ((i + 1 : Nat) : Int); omega), trivial⟩ ⟨⟨_, rfl, ChE.refl _⟩, ⟨_, rfl, ChE.refl _⟩, ⟨_, rfl, ChE.refl _⟩, ⟨_, rfl, ChE.refl _⟩, ⟨_, rfl, ChE.refl _⟩, ⟨_, rfl, ChE.refl _⟩, ⟨_, rfl, atM_ch hm⟩, trivial⟩
          ·refine AFn.useA [0, 1, 2, 3, 4, 5] (RT.deafFull hs hN hlt hL (by omega)) fun y => ?_
           obtain ⟨t, ht, hloc⟩ := y
           have hlt2 : lastR t.sg.s.last t.g.sealed = i := ht.last hN (Nat.le_of_lt hlt)
           have hsl2 : t.g.sealed.length ≤ 1000 := ht.few (by omega)
           refine goA ?_
           refine AFn.useA [0, 1, 2, 3, 4, 5] (lastO_ok t.g t.hd 0 t.v t.sg hsl2) fun _ => ?_
           rw [hlt2]
           refine goA ?_
           rw [decide_eq_false (show ¬ ((i : Nat) : Int) ≠ (i : Int) from fun h => h rfl)]
           refine goA ?_
           refine AFn.useA [0] (fsQuota (v := t.v) ((1073741824 : Nat) : Int) (by decide)) fun _ => ?_
           refine goA ?_
           exact ⟨(AWP.of_ent (C := cfgRl 200 0) (Ent.mkA [some 0, some 1, some 2, some 3, some 4, some 5, some 6, some 7]) (key ⟨t.quot, ht.quot, hloc⟩)).run⟩
         ·exact absurd (e2.symm.trans q2) (by decide)
        ·exfalso; omega
      | false =>
        have hq : (s.v.used : Int) + 20 ≤ 1073741824 := by
         have hu := used_le hri.ok
         have hm : (5 * i + 10) * (2300 * i + 100) + 20 ≤ 1073741824 := mulB (by omega) (by omega) (by omega)
         omega
        have fU := fsUsed hri.ok (by omega) (by omega) hri.up.off
        have fQ := fsQuota (v := s.v) ((s.v.used : Int) + 20) ⟨by omega, hq⟩
        apply AWP.aheadX (X := Unit) (C := cfgR3 200 0) (fun _ => rfF L ea qu 6 7 i) (fun _ => rfQ { s with v := s.v.quot ((s.v.used : Int) + 20) } (-1) (locsOf s.S) (L.getD i default))
        ·intro key3
         refine goA ?_
         refine ifdA (fun q1 => ?_) (fun q1 => ?_) <;> (try dsimp only at q1)
         ·refine goA ?_
          refine ifdA (fun q2 => ?_) (fun q2 => ?_) <;> (try dsimp only at q2)
          ·exact absurd (hb.2 ⟨by omega, q2⟩) (by decide)
          ·refine goA ?_
           refine AFn.useA [0] (fU) fun _ => ?_
           refine goA ?_
           refine AFn.useA [0] (fQ) fun _ => ?_
           refine goA ?_
           exact ⟨(AWP.of_ent (C := cfgR3 200 0) (Ent.mkA [some 0, some 1, some 2, some 3, some 4, some 5, some 6, some 7]) (key3 ())).run⟩
         ·refine goA ?_
          refine AFn.useA [0] (fU) fun _ => ?_
          refine goA ?_
          refine AFn.useA [0] (fQ) fun _ => ?_
          refine goA ?_
          exact ⟨(AWP.of_ent (C := cfgR3 200 0) (Ent.mkA [some 0, some 1, some 2, some 3, some 4, some 5, some 6, some 7]) (key3 ())).run⟩
        ·intro _
         refine AWP.go (S := sch4) (cfgR3Ok _ _) (.of_eq (by kernel_rfl)) ?_
         refine goA ?_
         refine AFn.useA [0, 1, 2, 3, 4, 5] (RT.poor hs hN hlt hL rfl) fun y => ?_
         obtain ⟨⟨b, t⟩, ht, hloc⟩ := y
         have hlt2 : lastR t.sg.s.last t.g.sealed = i := RT.Mid.last (s := t.quot) ht hN (Nat.le_of_lt hlt)
         have hsl2 : t.g.sealed.length ≤ 1000 := RT.Mid.few (s := t.quot) ht (by omega)
         cases b
         ·refine goA ?_
          refine AFn.useA [0, 1, 2, 3, 4, 5] (lastO_ok t.g t.hd (-1) t.v t.sg hsl2) fun _ => ?_
          rw [hlt2]
          refine goA ?_
          rw [decide_eq_false (show ¬ ((i : Nat) : Int) ≠ (i : Int) from fun h => h rfl)]
          refine goA ?_
          refine AFn.useA [0] (fsQuota (v := t.v) ((1073741824 : Nat) : Int) (by decide)) fun _ => ?_
          refine goA ?_
          exact ⟨(AWP.of_ent (C := cfgRl 200 0) (Ent.mkA [some 0, some 1, some 2, some 3, some 4, some 5, some 6, some 7]) (key ⟨t.quot, ht, hloc⟩)).run⟩
         ·refine goA ?_
          refine AFn.useA [0, 1, 8, 3, 10, 9] (lastO_ok t.g t.hd (-1) t.v t.sg hsl2) fun _ => ?_
          rw [hlt2]
          refine goA ?_
          rw [decide_eq_false (show ¬ ((i : Nat) : Int) ≠ (i : Int) from fun h => h rfl)]
          refine goA ?_
          refine AFn.useA [0] (fsQuota (v := t.v) ((1073741824 : Nat) : Int) (by decide)) fun _ => ?_
          refine goA ?_
          exact ⟨(AWP.of_ent (C := cfgRl 200 0) (Ent.mkA [some 0, some 1, some 8, some 3, some 10, some 9, some 6, some 7]) (key ⟨t.quot, ht, hloc⟩)).run⟩
    ·intro x
     obtain ⟨t, ht, hloc⟩ := x
     dsimp only
     refine AWP.go (S := sch4) (cfgRlOk _ _) (.of_eq (by kernel_rfl)) ?_
     refine goA ?_
     refine AFn.useA [0, 1, 2, 3, 4, 5] (RT.goes ht hN hlt hL) fun y => ?_
     obtain ⟨⟨b, u⟩, hu, hl2⟩ := y
     have hlu : lastR u.sg.s.last u.g.sealed = i + 1 := (RT.In.last hu).trans (lastS_take hN (by omega))
     have hsu : u.g.sealed.length ≤ 1000 := by rw [hu.gs, sealsOf_len]; have := RT.In.few hu; omega
     cases b
     ·refine goA ?_
      refine AFn.useA [0, 1, 2, 3, 4, 5] (lastO_ok u.g u.hd (-1) u.v u.sg hsu) fun _ => ?_
      rw [hlu]
      refine goA ?_
      rw [decide_eq_false (show ¬ ((i + 1 : Nat) : Int) ≠ ((L.getD i default).seq : Int) by omega)]
      refine goA ?_
      have hm := atM_put2 (p := u.loc) hlenA hsq (hl2.trans (by rw [hloc]))
      refine AWP.go (S := []) (cfgR1Ok _ _) (.of_eq (by kernel_rfl)) ?_
      refine goA ?_
      refine ⟨TW.at (i + 1) u (by omega) hu, ?_, by show L.length - (i + 1) < L.length - i; omega⟩
      show Ent _ _ _ _ _ (rfO u)
      exact Ent.mk' [some 0, some 1, some 2, some 3, some 4, some 5, some 6] (by kernel_rfl) ⟨AVE.refl _, AVE.refl _, AVE.refl _, AVE.refl _, AVE.refl _, AVE.refl _, AVE.refl _, AVE.refl _, AVE.refl _, AVE.int (by show ((i : Nat) : Int) + 1 = ((i + 1 : Nat) : Int); omega), trivial⟩ ⟨⟨_, rfl, ChE.refl _⟩, ⟨_, rfl, ChE.refl _⟩, ⟨_, rfl, ChE.refl _⟩, ⟨_, rfl, ChE.refl _⟩, ⟨_, rfl, ChE.refl _⟩, ⟨_, rfl, ChE.refl _⟩, ⟨_, rfl, atM_ch hm⟩, trivial⟩
     ·refine goA ?_
      refine AFn.useA [0, 1, 8, 3, 10, 9] (lastO_ok u.g u.hd (-1) u.v u.sg hsu) fun _ => ?_
      rw [hlu]
      refine goA ?_
      rw [decide_eq_false (show ¬ ((i + 1 : Nat) : Int) ≠ ((L.getD i default).seq : Int) by omega)]
      refine goA ?_
      have hm := atM_put2 (p := u.loc) hlenA hsq (hl2.trans (by rw [hloc]))
      refine AWP.go (S := []) (cfgR1Ok _ _) (.of_eq (by kernel_rfl)) ?_
      refine goA ?_
      refine ⟨TW.at (i + 1) u (by omega) hu, ?_, by show L.length - (i + 1) < L.length - i; omega⟩
      show Ent _ _ _ _ _ (rfO u)
      exact Ent.mk' [some 0, some 1, some 8, some 3, some 10, some 9, some 6] (by kernel_rfl) ⟨AVE.refl _, AVE.refl _, AVE.refl _, AVE.refl _, AVE.refl _, AVE.refl _, AVE.refl _, AVE.refl _, AVE.refl _, AVE.int (by show ((i : Nat) : Int) + 1 = ((i + 1 : Nat) : Int); omega), trivial⟩ ⟨⟨_, rfl, ChE.refl _⟩, ⟨_, rfl, ChE.refl _⟩, ⟨_, rfl, ChE.refl _⟩, ⟨_, rfl, ChE.refl _⟩, ⟨_, rfl, ChE.refl _⟩, ⟨_, rfl, ChE.refl _⟩, ⟨_, rfl, atM_ch hm⟩, trivial⟩
   ·have hz : i = L.length := by omega
    subst hz
    refine goA ?_
    exact ⟨(AWP.of_ent (C := cfgR0 200 0) (Ent.mkA [some 0, some 1, some 2, some 3, some 4, some 5, some 6]) (refused_tail hN hL hs)).run⟩
end Go.Proofs.YtgfkepebfaiepaaGreatDoor.Ax

namespace Go.Proofs.YtgfkepebfaiepaaGreatDoor.Ax
open Go.ChangeShapes Go.WideShapes Go.RowKit
theorem sh_bools' {ι : Imm} {x : IV} {v : Value} (h : (AT.sl [.bool]).Sh x) (hr : IV.R ι x v) : ∃ B : List Bool, B.length ≤ 9223372036854775807 ∧ IV.R ι (bRow B) v := by
 simp only [AT.Sh, AT.Shs] at h
 obtain ⟨n, f, rfl, hn, hf⟩ := h
 obtain ⟨l, h1, _, h3⟩ := rows_of (f := f) (n := n) (fun z : Bool => [IV.v (.bool z)]) (fun _ => True) (fun i hi => by
  obtain ⟨y, ys, e, ⟨z, rfl⟩, rfl⟩ := hf i hi
  exact ⟨z, e, trivial⟩)
 refine ⟨l, by omega, ?_⟩
 subst h1
 exact R_rows hr fun i hi => by rw [h3 i hi]; rfl
end Go.Proofs.YtgfkepebfaiepaaGreatDoor.Ax

namespace Go.Proofs.YtgfkepebfaiepaaGreatDoor.Ax
open Go.RowKit Go.ChangeShapes
theorem laid_mem {P : Program} {W : World} : ∀ {l : List (String × DataW Unit)} {ps : List MemPlace}, DataW.LaidVars P W l ps → ∀ {n d}, (n, d) ∈ l →
 ∃ g t cs fuel p, P.globalNamed n = some g ∧ (P.globals[g]?).map (·.type) = some t ∧ W.var? P n = some cs ∧ DataW.trod (fun _ => ()) P W 0 (fun _ => true) false fuel t cs.toList = some (d, p) ∧ ∀ q ∈ MemPlace.row ⟨g, 0, none⟩ cs.size ++ p, q ∈ ps
 | [], _, _, _, _, h => by cases h
 | (n', d') :: r, ps, h, n, d, hm => by
  obtain ⟨g, t, cs, fuel, p, q, h1, h2, h3, h4, h5, rfl⟩ := h
  rcases List.mem_cons.1 hm with hm | hm
  ·obtain ⟨rfl, rfl⟩ := Prod.mk.injEq .. ▸ hm
   exact ⟨g, t, cs, fuel, p, h1, h2, h3, h4, fun x hx => List.mem_append_left _ hx⟩
  ·obtain ⟨g', t', cs', fuel', p', k1, k2, k3, k4, k5⟩ := laid_mem h5 hm
   exact ⟨g', t', cs', fuel', p', k1, k2, k3, k4, fun x hx => List.mem_append_right _ (k5 x hx)⟩
theorem laid_one {P : Program} {W : World} {l : List (String × DataW Unit)} (h : laidMetH P l W) {n : String} {d : DataW Unit} (hm : (n, d) ∈ l) (hn : d.handleName?.isNone = true) :
 ∃ g t cs fuel p, P.globalNamed n = some g ∧ (P.globals[g]?).map (·.type) = some t ∧ W.var? P n = some cs ∧ DataW.trod (fun _ => ()) P W 0 (fun _ => true) false fuel t cs.toList = some (d, p) ∧
   ∀ b off, MemPlace.cell b off ∈ MemPlace.row ⟨g, 0, none⟩ cs.size ++ p → ∀ u v, W.cell? ⟨b, off, none⟩ = some (.iface u v) → Value.okWide P W .any 0 u v := by
 obtain ⟨h1, _⟩ := laidMetH_iff.1 h
 obtain ⟨ps, k1, _, k3⟩ := h1
 obtain ⟨g, t, cs, fuel, p, q1, q2, q3, q4, q5⟩ := laid_mem k1 (n := n) (d := d) (List.mem_filter.2 ⟨hm, hn⟩)
 exact ⟨g, t, cs, fuel, p, q1, q2, q3, q4, fun b off hb => (k3 b off (q5 _ hb)).2⟩
theorem pp_of {ι : Imm} {g : Nat} {l : List IV} {vs : List Value} (h : IV.Rs ι l vs) (hc : ∀ j u, vs[j]? = some u → ι g j = some u) : IV.R ι (.pp l) (.pointer (some ⟨g, 0, none⟩)) := by
 simp only [IV.R]
 exact ⟨⟨g, 0, none⟩, vs, rfl, rfl, h, fun j u hj => by simpa using hc j u hj⟩
theorem ints_Rs (ι : Imm) (k : IntKind) : ∀ ns : List Int, IV.Rs ι (ns.map fun n => .v (.int k n)) (ns.map fun n => Value.int k n)
 | [] => rfl
 | n :: ns => by
   rw [List.map_cons, List.map_cons]
   simp only [IV.Rs]
   exact ⟨_, _, rfl, by simp only [IV.R], ints_Rs ι k ns⟩
theorem ints_laid {P : Program} {W : World} {l : List (String × DataW Unit)} (h : laidMetH P l W) {n : String} {g t e : Nat} {k : IntKind} {ns : List Int} (hm : (n, .agg (ns.map fun x => .lit (.int k x))) ∈ l)
 (hP : P.globalNamed n = some g) (hT : (P.globals[g]?).map (·.type) = some t) (ht : P.underlying t = some (.array ns.length e)) (he : P.underlying e = some (.int k)) (hc : P.cellsOf e = 1) (_hct : P.cellsOf t = ns.length)
 (hn : (DataW.agg (ns.map fun x => .lit (.int k x)) : DataW Unit).handleName?.isNone = true) : IV.R (immOf W) (.pp (ns.map fun n => .v (.int k n))) (.pointer (some ⟨g, 0, none⟩)) := by
 obtain ⟨g', t', cs, fuel, p, h1, h2, h3, h4, _⟩ := laid_one h hm hn
 obtain rfl := Option.some.inj (hP.symm.trans h1)
 obtain rfl := Option.some.inj (hT.symm.trans h2)
 obtain ⟨xs, m, _, h5, h6, h7, h8⟩ := DataW.trod_array ht h4
 injection h5 with h5 _
 injection h5 with h5
 refine pp_of (ints_Rs _ k ns) fun j u hj => ?_
 rw [List.getElem?_map] at hj
 cases hnj : ns[j]? with
 | none => rw [hnj] at hj; cases hj
 | some z =>
   rw [hnj] at hj
   injection hj with hj
   subst hj
   have hlt : j < ns.length := (List.getElem?_eq_some_iff.1 hnj).1
   have hx := h8 j hlt
   have hxj : xs[j]?.map (·.1) = some (.lit (.int k z)) := by
    have := congrArg (fun l => l[j]?) h5
    simp only [List.getElem?_map, hnj, Option.map_some] at this
    rw [← this]
   cases hq : xs[j]? with
   | none => rw [hq] at hxj; cases hxj
   | some x =>
     rw [hq] at hx hxj
     obtain ⟨z', e1, e2, _⟩ := DataW.trod_int he hx
     rw [e2] at hxj
     injection hxj with hxj
     injection hxj with hxj
     injection hxj with _ hxj
     subst hxj
     rw [hc, Nat.mul_one] at e1
     have hcell := World.var?_cell hP h3 j
     have : cs[j]? = some (.int k z') := by
      have hh : (cs.toList.drop j).take 1 = [Value.int k z'] := e1
      have : (cs.toList.drop j)[0]? = some (Value.int k z') := by
       have := congrArg (fun l => l[0]?) hh
       simpa using this
      simpa using this
     exact immOf_mk (by rw [hcell, this]) rfl
end Go.Proofs.YtgfkepebfaiepaaGreatDoor.Ax

namespace Go.Proofs.YtgfkepebfaiepaaGreatDoor.Ax
open Go.ChangeShapes Go.WideShapes Go.ChangeAt Go.RowKit Go.Deep
def flatT (P : Program) (F : List Field) : List (Nat × TypeId) := F.flatMap fun f => match P.underlying f.type with
 | some (.struct G) => G.toList.map fun g => (f.offset + g.offset, g.type)
 | _ => [(f.offset, f.type)]
def flatOk (P : Program) (F : List Field) : Bool := F.all fun f => match P.underlying f.type with
 | some (.struct G) => G.toList.all fun g => decide (g.offset < P.cellsOf f.type)
 | _ => true
def slB (P : Program) (fs : List AT) (t : TypeId) : Bool := match P.underlying t with
 | some (.slice e) => Nat.beq (P.cellsOf e) fs.length && (!(Nat.beq fs.length 0) && (match P.underlying e with
   | some (.struct F) => AT.fitssB P fs (flatT P F.toList) 0 && flatOk P F.toList
   | _ => false))
 | _ => false
section
variable {H : Type} {enc : TypeId × Value → H} {P : Program} {w : World} {base : Nat} {spare : Nat → Bool} {held : Bool}
theorem open_flat {fs : List AT} {t : TypeId} {v : Value} {d : DataW H} {ps : List MemPlace} {r : Reach} {b0 : Nat} (hB : slB P fs t = true) (hval : Value.okWide P w r b0 t v) (hd : DataW.Trod enc P w base spare held t v d ps) : ∃ x, (AT.sl fs).Sh x ∧ IV.R (immOf w) x v := by
 unfold slB at hB
 split at hB
 ·rename_i e ht
  rw [Bool.and_eq_true, Bool.and_eq_true] at hB
  obtain ⟨hc, hz, h3⟩ := hB
  have hc : P.cellsOf e = fs.length := Nat.eq_of_beq_eq_true hc
  have hz : fs.length ≠ 0 := fun h0 => by (rw [h0] at hz; cases hz)
  split at h3
  ·rename_i F hF
   rw [Bool.and_eq_true] at h3
   obtain ⟨hft, hfk⟩ := h3
   have hft := fitss_of fs _ 0 hft
   obtain ⟨fuel, h⟩ := hd
   have hc0 : v.cells.toList = [v] := by
    obtain ⟨a0, l0, c0, rfl⟩ := okWide_slice ht hval
    rfl
   rw [hc0] at h
   have hmx : maxLen = 9223372036854775807 := by decide
   rcases open_slice ht h with ⟨hcs, _⟩ | ⟨a, len, cap, m, n, D, Pl, hcs, _, hl, hm, hmm, _, hi⟩
   ·simp only [List.cons.injEq, and_true] at hcs
    subst hcs
    refine ⟨.sl fs.length 0 fun _ => [], by simp only [AT.Sh]; exact ⟨0, _, rfl, by omega, fun i hi => by omega⟩, ?_⟩
    simp only [IV.R]
    exact ⟨none, 0, rfl, Nat.le_refl _, Nat.zero_le _, fun k hk => by omega⟩
   ·simp only [List.cons.injEq, and_true] at hcs
    subst hcs
    have hlm : len ≤ m := by rw [hmm]; split <;> omega
    have each : ∀ i, i < len → ∃ xs vs, AT.Shs fs xs ∧ IV.Rs (immOf w) xs vs ∧ ∀ j u, vs[j]? = some u → w.cell? ((a.add (i * fs.length)).add j) = some u := fun i hil => by
     obtain ⟨cs', hcell, htr⟩ := hi i (by omega)
     rw [hc] at hcell
     obtain ⟨_, hcl, hat⟩ := World.cells?_some hcell
     have hcell' : ∀ j u, cs'[j]? = some u → w.cell? ((a.add (i * fs.length)).add j) = some u := fun j u hj => by
      have : j < fs.length := by rw [← hcl]; exact (List.getElem?_eq_some_iff.1 hj).1
      rw [hat j this]; exact hj
     obtain ⟨ys, n', _, _, _, hyl, hfd⟩ := DataW.trod_struct hF htr
     obtain ⟨hfl, hfo⟩ := fitss_at hft
     obtain ⟨xs, h1, h2⟩ := open_ats fs _ 0 cs' hft hcl (fun j q hj => by
      obtain ⟨k1, k2⟩ := hfo j q hj
      simp only [Nat.zero_add] at k1
      have hjl : j < fs.length := by rw [← hfl]; exact (List.getElem?_eq_some_iff.1 hj).1
      have hone : (cs'.drop j).take 1 = [cs'[j]'(by omega)] := by
       rw [List.drop_eq_getElem_cons (by omega)]
       rfl
      obtain ⟨g, hg, hq⟩ := List.mem_flatMap.1 (List.mem_of_getElem? hj)
      obtain ⟨gi, hgi⟩ := List.getElem?_of_mem hg
      have h1 := hfd gi g (by simpa using hgi)
      have hgl : gi < ys.length := by rw [hyl]; simpa using (List.getElem?_eq_some_iff.1 hgi).1
      rw [List.getElem?_eq_getElem hgl] at h1
      have hok := List.all_eq_true.1 hfk g hg
      split at hq
      ·rename_i G hG
       obtain ⟨s, hs, rfl⟩ := List.mem_map.1 hq
       rw [hG] at hok
       have hsl := List.all_eq_true.1 hok s hs
       rw [decide_eq_true_eq] at hsl
       obtain ⟨zs, n'', _, _, _, hzl, hsd⟩ := DataW.trod_struct hG h1
       obtain ⟨si, hsi⟩ := List.getElem?_of_mem hs
       have h2 := hsd si s (by simpa using hsi)
       have hzl' : si < zs.length := by rw [hzl]; simpa using (List.getElem?_eq_some_iff.1 hsi).1
       rw [List.getElem?_eq_getElem hzl', k2, List.drop_take, List.drop_drop, List.take_take, Nat.min_eq_left (by omega)] at h2
       simp only at k1
       rw [k1, hone] at h2
       exact ⟨n'', _, _, List.getElem?_eq_getElem (by omega), h2⟩
      ·obtain rfl := List.mem_singleton.1 hq
       simp only at k1 k2
       rw [k1, k2, hone] at h1
       exact ⟨n', _, _, List.getElem?_eq_getElem (by omega), h1⟩)
     exact ⟨xs, cs', h1, h2, hcell'⟩
    let f : Nat → List IV := fun i => if h : i < len then Classical.choose (each i h) else []
    have hfi : ∀ i (h : i < len), f i = Classical.choose (each i h) := fun i h => by simp only [f, dif_pos h]
    refine ⟨.sl fs.length len f, by simp only [AT.Sh]; exact ⟨len, f, rfl, by omega, fun i hil => by rw [hfi i hil]; exact (Classical.choose_spec (each i hil)).choose_spec.1⟩, ?_⟩
    simp only [IV.R]
    refine ⟨some a, cap, rfl, hl, hm, fun k hk => ?_⟩
    obtain ⟨vs, g1, g2, g3⟩ := Classical.choose_spec (each k hk)
    rw [← hfi k hk] at g1 g2
    obtain ⟨g4, g5⟩ := Shs_one fs _ _ g1 g2
    have hs : a.spot = none := by
     obtain ⟨vs0, q1, q2, q3⟩ := Classical.choose_spec (each 0 (by omega))
     obtain ⟨_, q5⟩ := Shs_one fs _ _ q1 q2
     obtain ⟨v0, vr, hvs⟩ : ∃ v0 vr, vs0 = v0 :: vr := by
      cases vs0 with
      | nil => simp at q5; omega
      | cons v0 vr => exact ⟨v0, vr, rfl⟩
     have h0 := q3 0 v0 (by rw [hvs]; rfl)
     rw [Nat.zero_mul, show (a.add 0).add 0 = a by simp [Addr.add]] at h0
     exact cell_spot h0
    refine ⟨a, vs, rfl, hs, g2, g5, fun j u hj => ?_⟩
    have hcl := g3 j u hj
    rw [add_none' hs, add_none] at hcl
    exact immOf_mk hcl (g4 u (List.mem_of_getElem? hj))
  ·cases h3
 ·cases hB
end
end Go.Proofs.YtgfkepebfaiepaaGreatDoor.Ax

namespace Go.Proofs.YtgfkepebfaiepaaGreatDoor.Ax
open Go.ChangeShapes Go.WideShapes Go.RowKit
theorem rows_ofE {α : Type} [Inhabited α] {n : Nat} {f : Nat → List IV} (g : α → List IV) (Q : α → Prop) (h : ∀ i, i < n → ∃ c, IVEs (f i) (g c) ∧ Q c) : ∃ l : List α, l.length = n ∧ (∀ c ∈ l, Q c) ∧ ∀ i, i < n → IVEs (f i) (g (l.getD i default)) := by
 induction n with
 | zero => exact ⟨[], rfl, fun c hc => by (cases hc), fun i hi => by omega⟩
 | succ n ih =>
   obtain ⟨l, h1, h2, h3⟩ := ih fun i hi => h i (by omega)
   obtain ⟨c, e, q⟩ := h n (by omega)
   refine ⟨l ++ [c], by simp [h1], fun x hx => ?_, fun i hi => ?_⟩
   ·rcases List.mem_append.1 hx with hx | hx
    ·exact h2 x hx
    ·simp only [List.mem_singleton] at hx
     subst hx
     exact q
   ·by_cases hi' : i < n
    ·have := h3 i hi'
     rw [List.getD_eq_getElem?_getD] at this ⊢
     rw [List.getElem?_append_left (by omega)]
     exact this
    ·have : i = n := by omega
     subst this
     have e2 : (l ++ [c]).getD i default = c := by simp [List.getD, ← h1]
     rw [e2]
     exact e
theorem R_rowsE {ι : Imm} {sz n : Nat} {f f' : Nat → List IV} {v : Value} (h : IV.R ι (.sl sz n f) v) (hf : ∀ i, i < n → IVEs (f i) (f' i)) : IV.R ι (.sl sz n f') v := by
 have := (AVE.sl hf).run (fun _ => none) ι v (by simpa only [AV.R] using h)
 simpa only [AV.R] using this
theorem sh_recs {ι : Imm} {x : IV} {v : Value} (h : (AT.sl [.int .u64, .int .i64, .bytes, .bytes, .int .u32, .int .u32]).Sh x) (hr : IV.R ι x v) : ∃ l : List Rec, (l.length ≤ 9223372036854775807 ∧ ∀ r ∈ l, r.W) ∧ IV.R ι (.sl 6 l.length (recF l)) v := by
 simp only [AT.Sh] at h
 obtain ⟨n, f, rfl, hn, hf⟩ := h
 obtain ⟨l, h1, h2, h3⟩ := rows_ofE (f := f) (n := n) recI Rec.W (fun i hi => by
  have hfi := hf i hi
  simp only [AT.Shs, AT.Sh] at hfi
  obtain ⟨_, _, e, ⟨a, rfl, ha⟩, _, _, rfl, ⟨b, rfl, _⟩, _, _, rfl, ⟨c, rfl, hc⟩, _, _, rfl, ⟨d, rfl, hd⟩, _, _, rfl, ⟨g, rfl, hg⟩, _, _, rfl, ⟨k, rfl, hk⟩, rfl⟩ := hfi
  have ha := bounds_u64 ha
  have hg := bounds_u32 hg
  have hk := bounds_u32 hk
  refine ⟨⟨a.toNat, b, c, d, g.toNat, k.toNat⟩, ?_, hc, hd⟩
  rw [e]
  show IVEs _ [IV.v (.int .u64 (a.toNat : Int)), IV.v (.int .i64 b), .bs c, .bs d, IV.v (.int .u32 (g.toNat : Int)), IV.v (.int .u32 (k.toNat : Int))]
  rw [Int.toNat_of_nonneg (by omega), Int.toNat_of_nonneg (by omega), Int.toNat_of_nonneg (by omega)]
  exact IVEs.refl _)
 exact ⟨l, ⟨by rw [h1]; exact hn, h2⟩, by rw [h1]; exact R_rowsE hr h3⟩
end Go.Proofs.YtgfkepebfaiepaaGreatDoor.Ax
