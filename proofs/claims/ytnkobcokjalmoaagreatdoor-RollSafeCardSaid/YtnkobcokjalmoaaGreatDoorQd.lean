/-
  Chapter 13: the law's walk.
-/
import Derived.Test.YtnkobcokjalmoaaGreatDoorQx
import Derived.Test.YtnkobcokjalmoaaGreatDoorQc
import Derived.Test.YtnkobcokjalmoaaGreatDoorQu
import Derived.Test.YtnkobcokjalmoaaGreatDoorQk
import Derived.SizedLaws
import Derived.Test.YtnkobcokjalmoaaGreatDoorQy
import Derived.LaidHandle
import Derived.LaidSub
import Derived.LaidLaws
import Derived.OpenShut
import Derived.FnData
namespace Go.Proofs.YtnkobcokjalmoaaGreatDoor.Ax
open Go.RowKit
set_option maxRecDepth 100000
noncomputable def cfgWs (N b : Nat) : Cfg := { P := Go.Proofs.Tryz.prog, T := tt, cuts := [3010], wr := false, N := N, pure := [103, 102], base := b, frz := fun op => match op with | .makeFunc .. => true | .convert .. => true | .makeSlice .. => true | .buildSlice t .. => Nat.beq t 46 | _ => false }
theorem cfgWsOk (N b : Nat) : (cfgWs N b).Ok := ⟨ttOk, ttBytes, by kernel_rfl⟩
noncomputable def cfgWt (N b : Nat) : Cfg := { P := Go.Proofs.Tryz.prog, T := tt, wr := false, N := N, pure := [103, 102], base := b, frz := fun op => match op with | .makeFunc .. => true | .convert .. => true | .makeSlice .. => true | .buildSlice t .. => Nat.beq t 46 | _ => false }
theorem cfgWtOk (N b : Nat) : (cfgWt N b).Ok := ⟨ttOk, ttBytes, by kernel_rfl⟩
def wxS (vs : Nat → VM) : Nat → AH
 | 0 => rlC ⟨4096, [], 1, 0⟩ [] (-1) (VM.new 1073741824)
 | 5 => rlO wkG2 wkE2 (-1) (vs 5) (segA 2 [wxR 4] 0)
 | i => rlO wkG1 [.add 1] (-1) (vs i) (segA 1 (wxL i) 0)
set_option maxHeartbeats 4000000 in
theorem wakes13_ok : AFn Go.Proofs.Tryz.prog 33 [] ⟨0, []⟩ (fun _ : Unit => AV.bool true) (fun _ => ⟨0, []⟩) := by
 obtain ⟨vs, b1, b2, b4, b5, b6⟩ := wk_chain
 refine ACall.fin ?_
 refine ACall.walk (C := cfgWs 110 0) (cfgWsOk _ _) sch33 (fn := Go.Proofs.Tryz.f33) (by kernel_rfl) (by kernel_rfl) rfl (by kernel_rfl) (by kernel_rfl) rfl rfl ?_
 refine goA ?_
 refine AFn.useA [] (new_fs 1073741824 (by decide)) fun _ => ?_
 refine goA ?_
 refine AFn.useA [0] (rollNew_ok 4096 1 (by decide) (VM.new 1073741824)) fun _ => ?_
 refine goA ?_
 refine AWP.loop (X := { i : Nat // i ≤ 5 }) (fun x => [(3, .ptr 1 0), (5, .ptr 3 0), (26, AV.int .i64 x.1)]) (fun x => wxS vs x.1) (fun x => 5 - x.1) (⟨0, Nat.zero_le _⟩) ?_ fun x => AWP.go (S := sch33) (cfgWsOk _ _) (.of_eq (by kernel_rfl)) ?_
 ·refine (HEnt.ent (HEnt.addNil 128 5 (edF []))).trans ?_
  exact Ent.mk' (H' := rlC ⟨4096, [], 1, 0⟩ [] (-1) (VM.new 1073741824)) [some 0, some 1, some 2, some 3, some 4] (by kernel_rfl) ⟨AVE.refl _, AVE.refl _, AVE.refl _, trivial⟩ ⟨⟨_, rfl, ChE.refl _⟩, ⟨_, rfl, ChE.refl _⟩, ⟨_, rfl, ChE.refl _⟩, ⟨_, rfl, ChE.cells (by exact ⟨AVE.nil _ _, AVE.refl _, rfl⟩)⟩, ⟨_, rfl, ChE.refl _⟩, trivial⟩
 ·obtain ⟨i, hi⟩ := x
  dsimp only
  have hc : i = 0 ∨ (1 ≤ i ∧ i ≤ 3) ∨ i = 4 ∨ i = 5 := by omega
  rcases hc with rfl | hc | rfl | rfl
  ·refine goA ?_
   apply AWP.aheadX (X := Unit) (C := cfgWt 110 0) (fun _ => [(3, .ptr 1 0), (5, .ptr 3 0), (6, AV.int .i64 0), (26, AV.int .i64 0), (7, .ptr 6 0), (8, AV.int .i64 0)]) (fun _ => ⟨7, [(0, .sem (fsV (vs (0 + 1)))), (1, rollP wkG1 2 (.ptr 5 0)), (2, sealsP wkG1), (3, earP 4 [.add 1] (-1)), (4, hdP [.add 1]), (5, segP (segA 1 (wxL (0 + 1)) 0)), (6, boxL 1 (16))]⟩)
   ·intro key
    repeat' (refine And.intro ?_ ?_ <;> (refine goA ?_))
    all_goals
     refine ACall.argsE [.ptr 1 0, earA, recA (wxR 0)] ⟨AVE.refl _, AVE.refl _, AVE.aggE ⟨AVE.int rfl, AVE.refl _, AVE.refl _, AVE.refl _, AVE.refl _, AVE.refl _, rfl⟩, rfl⟩ ?_
     refine AFn.useA [0, 1, 2, 3, 4] (b1) fun _ => ?_
     refine goA ?_
     refine ⟨(AWP.of_ent (C := cfgWt 110 0) ?_ (key ())).run⟩
     first | (change Ent _ _ _ ⟨_, (0, _) :: _⟩ _ _; exact Ent.mk' [some 0, some 1, some 2, some 3, some 6, some 5, some 7] (by kernel_rfl) ⟨AVE.refl _, AVE.refl _, AVE.refl _, AVE.refl _, AVE.refl _, AVE.refl _, trivial⟩ subC) | exact Ent.mk' [some 0, some 1, some 2, some 3, some 7, some 6, some 5] (by kernel_rfl) ⟨AVE.refl _, AVE.refl _, AVE.refl _, AVE.refl _, AVE.refl _, AVE.refl _, trivial⟩ subC
   ·intro _
    refine AWP.go (S := sch33) (cfgWtOk _ _) (.of_eq (by kernel_rfl)) ?_
    refine goA ?_
    refine AWP.go (S := []) (cfgWsOk _ _) (.of_eq (by kernel_rfl)) ?_
    refine goA ?_
    refine ⟨⟨1, by decide⟩, ?_, (by decide : 5 - 1 < 5 - 0)⟩
    show Ent _ _ _ _ _ (rlO wkG1 [.add 1] (-1) (vs 1) (segA 1 (wxL 1) 0))
    exact Ent.mkA [some 0, some 1, some 2, some 3, some 4, some 5]
  ·have e : wxS vs i = rlO wkG1 [.add 1] (-1) (vs i) (segA 1 (wxL i) 0) := by
    have : i = 1 ∨ i = 2 ∨ i = 3 := by omega
    rcases this with rfl | rfl | rfl <;> rfl
   have bi := b2 i hc.1 hc.2
   rw [e]
   refine goA ?_
   refine ifdA (fun h0 => ?_) (fun h0 => ?_) <;> (try dsimp only at h0)
   rotate_left
   ·exfalso; omega
   refine goA ?_
   apply AWP.aheadX (X := Unit) (C := cfgWt 110 0) (fun _ => [(3, .ptr 1 0), (5, .ptr 3 0), (6, AV.int .i64 i), (26, AV.int .i64 i), (7, .ptr 6 0), (8, AV.int .i64 0)]) (fun _ => ⟨7, [(0, .sem (fsV (vs (i + 1)))), (1, rollP wkG1 2 (.ptr 5 0)), (2, sealsP wkG1), (3, earP 4 [.add 1] (-1)), (4, hdP [.add 1]), (5, segP (segA 1 (wxL (i + 1)) 0)), (6, boxL 1 (16 + 1000 * i))]⟩)
   ·intro key
    repeat' (refine And.intro ?_ ?_ <;> (refine goA ?_))
    all_goals
     refine ACall.argsE [.ptr 1 0, earA, recA (wxR i)] ⟨AVE.refl _, AVE.refl _, AVE.aggE ⟨AVE.int rfl, AVE.refl _, AVE.refl _, AVE.refl _, AVE.refl _, AVE.refl _, rfl⟩, rfl⟩ ?_
     refine AFn.useA [0, 1, 2, 3, 4, 5] (bi) fun _ => ?_
     refine goA ?_
     refine ⟨(AWP.of_ent (C := cfgWt 110 0) ?_ (key ())).run⟩
     exact Ent.mk' [some 0, some 1, some 2, some 3, some 4, some 5, some 6] (by kernel_rfl) ⟨AVE.refl _, AVE.refl _, AVE.refl _, AVE.refl _, AVE.refl _, AVE.refl _, trivial⟩ subC
   ·intro _
    refine AWP.go (S := sch33) (cfgWtOk _ _) (.of_eq (by kernel_rfl)) ?_
    refine goA ?_
    refine ifdA (fun q => ?_) (fun q => ?_) <;> (try dsimp only at q)
    ·have : i = 3 := by omega
     subst this
     refine goA ?_
     refine AFn.useA [4] (kinds_ok [.add 1] (by decide) (fun e he => by rw [List.mem_singleton.1 he]; exact ⟨.inl rfl, by decide, by decide⟩)) fun _ => ?_
     refine goA ?_
     refine ACall.argsE [.row 7 1 0 1, .iv (iRow (kindsOf [.add 1]))] ⟨AVE.refl _, AVE.sl fun j hj => (by have : j = 0 := Nat.lt_one_iff.1 hj; subst this; exact IVEs.refl _), rfl⟩ ?_
     refine AFn.useA [7] (eqInts_ok (kindsOf [.add 1]) (by decide)) fun _ => ?_
     refine goA ?_
     refine AWP.go (S := []) (cfgWsOk _ _) (.of_eq (by kernel_rfl)) ?_
     refine goA ?_
     refine ⟨⟨4, by decide⟩, ?_, (by decide : 5 - 4 < 5 - 3)⟩
     show Ent _ _ _ _ _ (rlO wkG1 [.add 1] (-1) (vs 4) (segA 1 (wxL 4) 0))
     exact Ent.mkA [some 0, some 1, some 2, some 3, some 4, some 5]
    ·refine goA ?_
     refine ifdA (fun q2 => ?_) (fun q2 => ?_) <;> (try dsimp only at q2)
     ·exfalso; omega
     refine goA ?_
     refine AWP.go (S := []) (cfgWsOk _ _) (.of_eq (by kernel_rfl)) ?_
     refine goA ?_
     refine ⟨⟨i + 1, by omega⟩, ?_, by show 5 - (i + 1) < 5 - i; omega⟩
     have e2 : wxS vs (i + 1) = rlO wkG1 [.add 1] (-1) (vs (i + 1)) (segA 1 (wxL (i + 1)) 0) := by
      have : i = 1 ∨ i = 2 := by omega
      rcases this with rfl | rfl <;> rfl
     rw [e2]
     exact Ent.mkA [some 0, some 1, some 2, some 3, some 4, some 5]
  ·refine goA ?_
   apply AWP.aheadX (X := Unit) (C := cfgWt 110 0) (fun _ => [(3, .ptr 1 0), (5, .ptr 3 0), (6, AV.int .i64 4), (26, AV.int .i64 4), (7, .ptr 6 0), (8, AV.int .i64 0)]) (fun _ => ⟨7, [(0, .sem (fsV (vs 5))), (1, rollP wkG2 2 (.ptr 5 0)), (2, sealsP wkG2), (3, earP 4 wkE2 (-1)), (4, hdP wkE2), (5, segP (segA 2 [wxR 4] 0)), (6, boxL 2 16)]⟩)
   ·intro key
    repeat' (refine And.intro ?_ ?_ <;> (refine goA ?_))
    all_goals
     refine ACall.argsE [.ptr 1 0, earA, recA (wxR 4)] ⟨AVE.refl _, AVE.refl _, AVE.aggE ⟨AVE.int rfl, AVE.refl _, AVE.refl _, AVE.refl _, AVE.refl _, AVE.refl _, rfl⟩, rfl⟩ ?_
     refine AFn.useA [0, 1, 2, 3, 4, 5] (b4) fun _ => ?_
     refine goA ?_
     refine ⟨(AWP.of_ent (C := cfgWt 110 0) ?_ (key ())).run⟩
     first | (change Ent _ _ _ ⟨_, (0, _) :: _⟩ _ _; exact Ent.mk' [some 0, some 1, some 6, some 3, some 8, some 7, some 9] (by kernel_rfl) ⟨AVE.refl _, AVE.refl _, AVE.refl _, AVE.refl _, AVE.refl _, AVE.refl _, trivial⟩ subC) | exact Ent.mk' [some 0, some 1, some 7, some 3, some 9, some 8, some 6] (by kernel_rfl) ⟨AVE.refl _, AVE.refl _, AVE.refl _, AVE.refl _, AVE.refl _, AVE.refl _, trivial⟩ subC
   ·intro _
    refine AWP.go (S := sch33) (cfgWtOk _ _) (.of_eq (by kernel_rfl)) ?_
    refine goA ?_
    refine AWP.go (S := []) (cfgWsOk _ _) (.of_eq (by kernel_rfl)) ?_
    refine goA ?_
    refine ⟨⟨5, by decide⟩, ?_, (by decide : 5 - 5 < 5 - 4)⟩
    show Ent _ _ _ _ _ (rlO wkG2 wkE2 (-1) (vs 5) (segA 2 [wxR 4] 0))
    exact Ent.mkA [some 0, some 1, some 2, some 3, some 4, some 5]
  ·refine goA ?_
   refine AFn.useA [0, 1, 2, 3, 4, 5] (b5) fun _ => ?_
   refine goA ?_
   refine ACall.argsE [.ptr 1 0, earA, recA wxD] ⟨AVE.refl _, AVE.refl _, AVE.aggE ⟨AVE.refl _, AVE.refl _, AVE.refl _, AVE.nilBs, AVE.refl _, AVE.refl _, rfl⟩, rfl⟩ ?_
   refine AFn.useA [0, 1, 6, 3, 7] (b6) fun _ => ?_
   refine goA ?_
   refine AFn.useA [10] (kinds_ok wkE4 (by decide) (fun e he => by
    unfold wkE4 at he
    simp only [List.mem_cons, List.not_mem_nil, or_false] at he
    rcases he with rfl | rfl | rfl | rfl | rfl
    ·exact ⟨.inl rfl, by decide, by decide⟩
    ·exact ⟨.inr rfl, by decide, by decide⟩
    ·exact ⟨.inl rfl, by decide, by decide⟩
    ·exact ⟨.inr rfl, by decide, by decide⟩
    ·exact ⟨.inl rfl, by decide, by decide⟩)) fun _ => ?_
   refine goA ?_
   refine ACall.argsE [.row 12 1 0 5, .iv (iRow (kindsOf wkE4))] ⟨AVE.refl _, AVE.sl fun j hj => ?_, rfl⟩ ?_
   ·have : j = 0 ∨ j = 1 ∨ j = 2 ∨ j = 3 ∨ j = 4 := by omega
    rcases this with rfl | rfl | rfl | rfl | rfl <;> exact IVEs.refl _
   refine AFn.useA [12] (eqInts_ok (kindsOf wkE4) (by decide)) fun _ => ?_
   refine goA ?_
   refine ⟨_, _, Ent.mk' (e' := [(0, AV.bool true)]) (H' := ⟨0, []⟩) [] (by kernel_rfl) ?_ ?_, (), rfl, rfl⟩
   ·exact ⟨AVE.bool (decide_eq_true (show ((wxL 4).length : Int) = 4 by rw [wxL_len]; rfl)), trivial⟩
   ·trivial
end Go.Proofs.YtnkobcokjalmoaaGreatDoor.Ax

namespace Go.Proofs.YtnkobcokjalmoaaGreatDoor.Ax
open Go.RowKit
set_option maxRecDepth 100000
def cntF (F : List (Nat × List Rec)) (k : Nat) : Nat := ((F.take k).flatMap Prod.snd).length
theorem cntF_zero (F : List (Nat × List Rec)) : cntF F 0 = 0 := by simp [cntF]
theorem cntF_succ {F : List (Nat × List Rec)} {k : Nat} (h : k < F.length) : cntF F (k + 1) = cntF F k + (F.getD k default).2.length := by
 unfold cntF
 rw [List.take_succ_eq_append_getElem h, List.flatMap_append, List.length_append]
 simp [List.getD, h]
theorem cntF_all (F : List (Nat × List Rec)) : cntF F F.length = (F.flatMap Prod.snd).length := by
 unfold cntF
 rw [List.take_length]
theorem flat_get : ∀ {F : List (Nat × List Rec)} {k z : Nat}, k < F.length → z < (F.getD k default).2.length → cntF F k + z < (F.flatMap Prod.snd).length ∧ (F.flatMap Prod.snd).getD (cntF F k + z) default = (F.getD k default).2.getD z default
 | q :: F, 0, z, _, hz => by
   have hz : z < q.2.length := hz
   rw [cntF_zero, Nat.zero_add]
   show z < (q.2 ++ F.flatMap Prod.snd).length ∧ (q.2 ++ F.flatMap Prod.snd).getD z default = q.2.getD z default
   refine ⟨by rw [List.length_append]; omega, ?_⟩
   rw [List.getD_eq_getElem?_getD, List.getElem?_append_left hz, ← List.getD_eq_getElem?_getD]
 | q :: F, k + 1, z, hk, hz => by
   obtain ⟨h1, h2⟩ := flat_get (F := F) (k := k) (z := z) (by simpa using hk) hz
   have e : cntF (q :: F) (k + 1) = q.2.length + cntF F k := by
    show (q.2 ++ (F.take k).flatMap Prod.snd).length = _
    rw [List.length_append]
    rfl
   rw [e]
   show _ < (q.2 ++ F.flatMap Prod.snd).length ∧ (q.2 ++ F.flatMap Prod.snd).getD _ default = (F.getD k default).2.getD z default
   refine ⟨by rw [List.length_append]; omega, ?_⟩
   rw [List.getD_eq_getElem?_getD, List.getElem?_append_right (by omega), ← List.getD_eq_getElem?_getD, ← h2]
   congr 1
   omega
def LoadOk (q : Nat × List Rec) (v : VM) : Prop := ∃ sc : SC, sc.found = fnds 16 q.2 ∧ (sc.why = 0 ∨ sc.why = 22) ∧ AFn Go.Proofs.Tryz.prog 21 [.ptr 0 0, AV.int .u32 q.1] (fone v) (fun _ : Unit => .tup [scA q.1 sc, AV.int .i64 0]) (fun _ => fone v)
section
variable {lim n B k : Nat} {L : List Rec} {S : List Sg} {next : Nat} {v : VM}
theorem crash_load (h : RI lim 1073741824 n B k L S next v) (hlim : lim ≤ 16777216) (hB : B ≤ 100000) {p : Sg} (hp : p ∈ S) (P : List Int) : ∃ m, p.c ≤ m ∧ m ≤ p.l.length ∧ LoadOk (p.id, p.l.take m) (v.crash P) := by
 have hi := (h.ids p hp).1
 obtain ⟨hc, hF⟩ := h.safe p hp
 have hs := h.size p hp
 obtain ⟨m, why, c1, c2, c3, f, hf, hsc, hfl⟩ := hF.crash h.ok hi (h.ascOf hp) (by omega) hc P
 have okc := h.ok.crash P
 have upc := h.up.crash P
 refine ⟨m, c1, c2, ⟨fnds 16 (p.l.take m), [], offAt p.l m, why⟩, rfl, c3, ?_⟩
 have hLo := segLoad_ok okc (by omega) p.id hi (hf.opens upc.off) (by rw [hf.file]; exact hfl)
 rw [hf.file, hsc] at hLo
 exact hLo
end
section
variable {lim fst i : Nat} {L : List Rec} {s : RS}
theorem RS.crashed (h : s.Ok lim fst L i) (hi : i ≤ L.length) (hL : L.length ≤ 60) (hlim : lim ≤ 16777216) (P : List Int) : ∃ F : List (Nat × List Rec), F.length = s.d.length + 1 ∧ (∃ m, F.flatMap Prod.snd = L.take m ∧ m ≤ L.length ∧ s.g.safe ≤ m) ∧ ∀ k, k < F.length → (F.getD k default).1 = (s.S.getD k default).id ∧ LoadOk (F.getD k default) (s.v.crash P) := by
 have hcnt := h.count hi
 have hrec := h.recs
 have hfew := h.few
 obtain ⟨m, c1, c2, hlo⟩ := crash_load h.rb.ri hlim (by omega) (p := ⟨s.id, s.l, s.c⟩) (by simp) P
 have c1 : s.c ≤ m := c1
 have c2 : m ≤ s.l.length := c2
 refine ⟨s.d.map (fun p => (p.id, p.l)) ++ [(s.id, s.l.take m)], by simp, ⟨(recsOf s.d).length + m, ?_, by omega, by have := h.safe; omega⟩, fun k hk => ?_⟩
 ·rw [List.flatMap_append]
  have e1 : (s.d.map fun p => (p.id, p.l)).flatMap Prod.snd = recsOf s.d := by
   unfold recsOf
   rw [List.flatMap_map]
  have e2 : [(s.id, s.l.take m)].flatMap Prod.snd = s.l.take m := by simp
  rw [e1, e2]
  have : L.take ((recsOf s.d).length + m) = (L.take i).take ((recsOf s.d).length + m) := by rw [List.take_take, Nat.min_eq_left (by omega)]
  rw [this, ← hrec, List.take_append, List.take_of_length_le (show (recsOf s.d).length ≤ (recsOf s.d).length + m by omega), Nat.add_sub_cancel_left]
 ·rw [List.length_append, List.length_map] at hk
  have hk : k < s.d.length + 1 := hk
  by_cases e : k = s.d.length
  ·subst e
   have e1 : ((s.d.map fun p => (p.id, p.l)) ++ [(s.id, s.l.take m)]).getD s.d.length default = (s.id, s.l.take m) := by
    rw [List.getD_eq_getElem?_getD, List.getElem?_append_right (by rw [List.length_map]; exact Nat.le_refl _), List.length_map, Nat.sub_self]
    rfl
   have e2 : s.S.getD s.d.length default = ⟨s.id, s.l, s.c⟩ := by
    unfold RS.S
    rw [List.getD_eq_getElem?_getD, List.getElem?_append_right (Nat.le_refl _), Nat.sub_self]
    rfl
   rw [e1, e2]
   exact ⟨rfl, hlo⟩
  ·have hk2 : k < s.d.length := by omega
   have e1 : ((s.d.map fun p => (p.id, p.l)) ++ [(s.id, s.l.take m)]).getD k default = ((s.d.getD k default).id, (s.d.getD k default).l) := by
    rw [List.getD_eq_getElem?_getD, List.getElem?_append_left (by rw [List.length_map]; exact hk2)]
    simp [List.getD, hk2]
   have e2 : s.S.getD k default = s.d.getD k default := by
    unfold RS.S
    rw [List.getD_eq_getElem?_getD, List.getElem?_append_left hk2, ← List.getD_eq_getElem?_getD]
   have hmem : s.d.getD k default ∈ s.d := by
    rw [List.getD_eq_getElem?_getD, List.getElem?_eq_getElem hk2]
    exact List.getElem_mem hk2
   rw [e1, e2]
   refine ⟨rfl, ?_⟩
   obtain ⟨m', d1, d2, hlo'⟩ := crash_load h.rb.ri hlim (by omega) (p := s.d.getD k default) (List.mem_append_left _ hmem) P
   have hfu := h.full _ hmem
   have : m' = (s.d.getD k default).l.length := by omega
   rw [this, List.take_length] at hlo'
   exact hlo'
end
end Go.Proofs.YtnkobcokjalmoaaGreatDoor.Ax

namespace Go.Proofs.YtnkobcokjalmoaaGreatDoor.Ax
open Go.RowKit
set_option maxRecDepth 100000
noncomputable def cfgSh (N b : Nat) : Cfg := { P := Go.Proofs.Tryz.prog, T := tt, cuts := [3028], wr := false, N := N, pure := (cfgRl 0 0).pure, base := b, frz := frzF }
theorem cfgShOk (N b : Nat) : (cfgSh N b).Ok := ⟨ttOk, ttBytes, by kernel_rfl⟩
structure HF (F : List (Nat × List Rec)) (hd : List Ed) : Prop where
 len : hd.length = 2 * F.length - 1
 add : ∀ k, k < F.length → hd.getD (2 * k) default = .add (F.getD k default).1
 shut : ∀ k, 2 * k + 1 < hd.length → ∃ s, hd.getD (2 * k + 1) default = .shut s
@[reducible] def sfH (hd : List Ed) (v : VM) : AH := ⟨3, [(0, .sem (fsV v)), (1, .cells 78 (earC 2 hd (-1))), (2, .rowc 128 5 hd.length (edF hd))]⟩
set_option maxHeartbeats 4000000 in
theorem safe_tail {L : List Rec} (hN : Numd L) (hL : L.length ≤ 60) {F : List (Nat × List Rec)} {hd : List Ed} (hF : HF F hd) (hFl : F.length ≤ 100) {M : Nat} (hM : F.flatMap Prod.snd = L.take M) (hML : M ≤ L.length) {sf : Nat} (hsf : sf ≤ M) {v : VM} (hLo : ∀ k, k < F.length → LoadOk (F.getD k default) v) :
 AWP (cfgRl 185 0) (tailC 11 (bodyOf Go.Proofs.Tryz.f9)) [(0, recsA L), (7, .ptr 0 0), (11, .ptr 1 0), (12, AV.int .u64 sf)] (sfH hd v) (LawQ Go.Proofs.Tryz.f9) := by
 have hlen := hF.len
 have hflat : (F.flatMap Prod.snd).length = M := by rw [hM, List.length_take]; omega
 refine AWP.go (S := sch9) (cfgRlOk _ _) (.of_eq (by kernel_rfl)) ?_
 refine goA ?_
 refine AWP.loop (X := { j : Nat // j ≤ hd.length }) (fun j => [(0, recsA L), (7, .ptr 0 0), (12, AV.int .u64 sf), (20, AV.int .u64 (1 + cntF F ((j.1 + 1) / 2) : Nat)), (127, .row 2 5 0 hd.length), (128, AV.int .i64 hd.length), (129, AV.int .i64 j.1)]) (fun j => sfH hd v) (fun j => hd.length - j.1) (⟨0, Nat.zero_le _⟩) ?_ fun j => AWP.go (S := sch9) (cfgRlOk _ _) (.of_eq (by kernel_rfl)) ?_
 ·refine Ent.mk' [some 0, some 1, some 2] (by kernel_rfl) ⟨AVE.refl _, AVE.refl _, AVE.refl _, AVE.int (by rw [show (0 + 1) / 2 = 0 from rfl, cntF_zero]; rfl), AVE.refl _, AVE.refl _, AVE.refl _, trivial⟩ subC
 ·obtain ⟨j, hj⟩ := j
  dsimp only
  refine goA ?_
  refine ifdA (fun h => ?_) (fun h => ?_) <;> (try dsimp only at h)
  ·have hlt : j < hd.length := by omega
   have hgi : hd.getD (0 + ((j : Nat) : Int).toNat) default = hd.getD j default := by rw [Nat.zero_add]; rfl
   obtain ⟨k, hk⟩ : ∃ k, j = 2 * k ∨ j = 2 * k + 1 := ⟨j / 2, by omega⟩
   refine goA ?_
   rw [hgi]
   rcases hk with rfl | rfl
   ·have hkF : k < F.length := by omega
    have e := hF.add k hkF
    obtain ⟨S, hS, hw, hload⟩ := hLo k hkF
    have hfg := @flat_get F k
    have hsucc := cntF_succ hkF
    rw [e]
    rw [show (2 * k + 1) / 2 = k by omega]
    generalize hq : F.getD k default = q at *
    obtain ⟨id, l⟩ := q
    dsimp only at *
    have hSl : S.found.length = l.length := by rw [hS, fnds_len]
    have hSg : ∀ z, z < l.length → S.found.getD z default = ⟨offAt l z, (l.getD z default).size, l.getD z default⟩ := fun z hz => by rw [hS]; exact @fnds_get 16 l 16 z hz
    have hLg : ∀ z, z < l.length → cntF F k + z < L.length ∧ L.getD (cntF F k + z) default = l.getD z default := fun z hz => by
     obtain ⟨h1, h2⟩ := hfg hkF hz
     rw [hflat] at h1
     refine ⟨by omega, ?_⟩
     rw [hM, List.getD_eq_getElem?_getD, List.getElem?_take_of_lt h1, ← List.getD_eq_getElem?_getD] at h2
     exact h2
    have hk1 : cntF F ((2 * k + 1 + 1) / 2) = cntF F k + l.length := by rw [show (2 * k + 1 + 1) / 2 = k + 1 by omega, hsucc]
    clear hS hfg hsucc hq e
    generalize cntF F k = c at *
    refine goA ?_
    refine AFn.useA [0] (hload) fun _ => ?_
    refine goA ?_
    apply AWP.ahead (C := cfgRl 185 0) ([(0, recsA L), (7, .ptr 0 0), (12, AV.int .u64 sf), (20, AV.int .u64 (1 + c : Nat)), (127, .row 2 5 0 hd.length), (128, AV.int .i64 hd.length), (129, AV.int .i64 (2 * k : Nat)), (156, .iv (.sl 9 S.found.length (fndF id S.found))), (157, AV.int .i64 S.found.length), (158, AV.int .i64 0)]) (sfH hd v)
    ·intro key
     repeat' (refine ifdA (fun q => ?_) (fun q => ?_) <;> (try dsimp only at q) <;> first | (exfalso; omega) | (refine goA ?_))
     all_goals
      refine AWP.of_ent ?_ key
      exact Ent.mkA [some 0, some 1, some 2]
    refine AWP.loop (X := { z : Nat // z ≤ S.found.length }) (fun z => [(0, recsA L), (7, .ptr 0 0), (12, AV.int .u64 sf), (20, AV.int .u64 (1 + (c + z.1) : Nat)), (127, .row 2 5 0 hd.length), (128, AV.int .i64 hd.length), (129, AV.int .i64 (2 * k : Nat)), (156, .iv (.sl 9 S.found.length (fndF id S.found))), (157, AV.int .i64 S.found.length), (158, AV.int .i64 z.1)]) (fun z => sfH hd v) (fun z => S.found.length - z.1) (⟨0, Nat.zero_le _⟩) ?_ fun z => AWP.go (S := sch9) (cfgRlOk _ _) (.of_eq (by kernel_rfl)) ?_
    ·exact Ent.mkA [some 0, some 1, some 2]
    ·obtain ⟨z, hz⟩ := z
     dsimp only
     refine goA ?_
     refine ifdA (fun h3 => ?_) (fun h3 => ?_) <;> (try dsimp only at h3)
     ·have hzl : z < l.length := by omega
      obtain ⟨g1, g2⟩ := hLg z hzl
      have hsq := hN.seq _ g1
      have hmy := hN.getMay g1
      have hg : S.found.getD ((z : Nat) : Int).toNat default = ⟨offAt l z, (l.getD z default).size, l.getD z default⟩ := hSg z hzl
      rw [← g2] at hg
      have hix : (((1 + (c + z) : Nat) : Int) - 1).toNat = c + z := by omega
      have hsm := recSame_ok (L.getD (c + z) default) (L.getD (c + z) default) (May.B hmy) (May.B hmy)
      rw [decide_eq_true rfl] at hsm
      have hsd : decide (((L.getD (c + z) default).seq : Int) ≠ ((1 + (c + z) : Nat) : Int)) = false := decide_eq_false (by omega)
      refine goA ?_
      rw [hg, hsd]
      refine goA ?_
      rw [hix]
      refine AFn.useA [] (hsm) fun _ => ?_
      refine goA ?_
      refine ⟨⟨z + 1, by omega⟩, ?_, by show S.found.length - (z + 1) < S.found.length - z; omega⟩
      exact Ent.mk' [some 0, some 1, some 2] (by kernel_rfl) ⟨AVE.refl _, AVE.refl _, AVE.refl _, AVE.int (by show ((1 + (c + z) : Nat) : Int) + 1 = ((1 + (c + (z + 1)) : Nat) : Int); omega), AVE.refl _, AVE.refl _, AVE.refl _, AVE.refl _, AVE.refl _, AVE.refl _, trivial⟩ subC
     ·have hze : z = l.length := by omega
      refine goA ?_
      refine ⟨⟨2 * k + 1, by omega⟩, ?_, by show hd.length - (2 * k + 1) < hd.length - 2 * k; omega⟩
      exact Ent.mk' [some 0, some 1, some 2] (by kernel_rfl) ⟨AVE.refl _, AVE.refl _, AVE.refl _, AVE.int (by show ((1 + (c + z) : Nat) : Int) = ((1 + cntF F ((2 * k + 1 + 1) / 2) : Nat) : Int); rw [hk1, hze]), AVE.refl _, AVE.refl _, AVE.refl _, trivial⟩ subC
   ·obtain ⟨x, hx⟩ := hF.shut k hlt
    rw [hx]
    refine goA ?_
    refine ⟨⟨2 * k + 1 + 1, by omega⟩, ?_, by show hd.length - (2 * k + 1 + 1) < hd.length - (2 * k + 1); omega⟩
    exact Ent.mk' [some 0, some 1, some 2] (by kernel_rfl) ⟨AVE.refl _, AVE.refl _, AVE.refl _, AVE.int (by show ((1 + cntF F ((2 * k + 1 + 1) / 2) : Nat) : Int) = ((1 + cntF F ((2 * k + 1 + 1 + 1) / 2) : Nat) : Int); rw [show (2 * k + 1 + 1 + 1) / 2 = (2 * k + 1 + 1) / 2 by omega]), AVE.refl _, AVE.refl _, AVE.refl _, trivial⟩ subC
  ·have : j = hd.length := by omega
   subst this
   refine goA ?_
   refine ⟨_, _, Ent.mk' (e' := [(0, AV.bool true)]) (H' := ⟨0, []⟩) [] (by kernel_rfl) ?_ ?_, (), rfl, rfl⟩
   ·refine ⟨AVE.bool (decide_eq_true ?_), trivial⟩
    rw [show (hd.length + 1) / 2 = F.length by omega, cntF_all, hflat]
    omega
   ·trivial
end Go.Proofs.YtnkobcokjalmoaaGreatDoor.Ax

namespace Go.Proofs.YtnkobcokjalmoaaGreatDoor.Ax
open Go.RowKit
set_option maxRecDepth 100000
theorem RS.hf {s : RS} {F : List (Nat × List Rec)} (hl : F.length = s.d.length + 1) (h1 : ∀ k, k < F.length → (F.getD k default).1 = (s.S.getD k default).id) : HF F s.hd := by
 have hd := heardOf_len s.d
 have hg : ∀ j, j < 2 * s.d.length → s.hd.getD j default = (heardOf s.d).getD j default := fun j hj => by
  unfold RS.hd
  rw [List.getD_eq_getElem?_getD, List.getElem?_append_left (by omega), ← List.getD_eq_getElem?_getD]
 have hlen : s.hd.length = 2 * s.d.length + 1 := by
  unfold RS.hd
  rw [List.length_append, hd]
  rfl
 refine ⟨by omega, fun k hk => ?_, fun k hk => ?_⟩
 ·rw [h1 k hk]
  by_cases e : k = s.d.length
  ·subst e
   have e1 : s.hd.getD (2 * s.d.length) default = .add s.id := by
    unfold RS.hd
    rw [List.getD_eq_getElem?_getD, List.getElem?_append_right (by omega), hd, Nat.sub_self]
    rfl
   have e2 : s.S.getD s.d.length default = ⟨s.id, s.l, s.c⟩ := by
    unfold RS.S
    rw [List.getD_eq_getElem?_getD, List.getElem?_append_right (Nat.le_refl _), Nat.sub_self]
    rfl
   rw [e1, e2]
  ·have hk2 : k < s.d.length := by omega
   rw [hg _ (by omega), heardOf_add hk2]
   unfold RS.S
   rw [List.getD_eq_getElem?_getD (l := s.d ++ _), List.getElem?_append_left hk2, ← List.getD_eq_getElem?_getD]
 ·have hk2 : k < s.d.length := by omega
  rw [hg _ (by omega), heardOf_seal hk2]
  exact ⟨_, rfl⟩
set_option maxHeartbeats 4000000 in
theorem safe_mid {L : List Rec} (hN : Numd L) (hL : L.length ≤ 60) (P : List Int) (hP : P.length ≤ 17592186044416) {hd : List Ed} {n B k : Nat} {v : VM} (ok : v.Ok n B k) (hn : n ≤ 400) (hB : B ≤ 100000) (_hk : k ≤ 10000) {sf : Nat}
 (hc : ∀ P', ∃ F M, HF F hd ∧ F.length ≤ 100 ∧ F.flatMap Prod.snd = L.take M ∧ M ≤ L.length ∧ sf ≤ M ∧ ∀ k, k < F.length → LoadOk (F.getD k default) (v.crash P')) :
 AWP (cfgSh 185 0) (tailC 8 (bodyOf Go.Proofs.Tryz.f9)) [(0, recsA L), (2, .iv (iRow P)), (7, .ptr 0 0), (11, .ptr 1 0), (12, AV.int .u64 sf)] (sfH hd v) (LawQ Go.Proofs.Tryz.f9) := by
 refine AWP.go (S := sch9) (cfgShOk _ _) (.of_eq (by kernel_rfl)) ?_
 refine goA ?_
 refine AWP.loop (X := { i : Nat // i ≤ P.length }) (fun y => [(0, recsA L), (2, .iv (iRow P)), (7, .ptr 0 0), (11, .ptr 1 0), (12, AV.int .u64 sf), (17, .row 3 1 0 P.length), (107, .iv (iRow P)), (108, AV.int .i64 P.length), (109, AV.int .i64 y.1)]) (fun y => ⟨4, [(0, .sem (fsV v)), (1, .cells 78 (earC 2 hd (-1))), (2, .rowc 128 5 hd.length (edF hd)), (3, .rowc 3 1 P.length (mkF P y.1))]⟩) (fun y => P.length - y.1) (⟨0, Nat.zero_le _⟩) ?_ fun y => AWP.go (S := sch9) (cfgShOk _ _) (.of_eq (by kernel_rfl)) ?_
 ·refine Ent.mkC [some 0, some 1, some 2, some 3] ⟨⟨_, rfl, ChE.refl _⟩, ⟨_, rfl, ChE.refl _⟩, ⟨_, rfl, ChE.refl _⟩, ⟨_, rfl, ChE.row (Nat.le_refl _) fun j hj => ?_⟩, trivial⟩
  unfold mkF
  rw [if_neg (Nat.not_lt_zero j)]
 ·obtain ⟨y, hy⟩ := y
  dsimp only
  refine goA ?_
  refine ifdA (fun h2 => ?_) (fun h2 => ?_) <;> (try dsimp only at h2)
  ·have hyl : y < P.length := by omega
   refine goA ?_
   refine ⟨⟨y + 1, hyl⟩, Ent.mkC [some 0, some 1, some 2, some 3] ?_, ?_⟩
   ·exact ⟨⟨_, rfl, ChE.refl _⟩, ⟨_, rfl, ChE.refl _⟩, ⟨_, rfl, ChE.refl _⟩, ⟨_, rfl, mk_row P hyl⟩, trivial⟩
   ·show P.length - (y + 1) < P.length - y
    omega
  ·have : y = P.length := by omega
   subst this
   have hlenM : (maskAll P).length = P.length := by simp [maskAll]
   obtain ⟨F, M, c1, c2, c3, c4, c5, c6⟩ := hc (maskAll P)
   have hCr := fsCrashGood ok (by omega) (by omega) (P := maskAll P) (by rw [hlenM]; omega) (maskAll_ok P)
   generalize v.crash (maskAll P) = v2 at *
   refine goA ?_
   refine ACall.freezeR 3 rfl [.ptr 0 0, .iv (.sl 1 P.length (mkF P P.length))] ⟨AVF.same .., AVF.sl (Nat.le_refl _), rfl⟩ ?_
   refine ACall.argsE [.ptr 0 0, .iv (iRow (maskAll P))] ⟨AVE.refl _, mkF_all P, rfl⟩ ?_
   refine AFn.useA [0] (hCr) fun _ => ?_
   refine goA ?_
   exact ⟨(AWP.of_ent (C := cfgRl 185 0) (Ent.mkA [some 0, some 1, some 2]) (safe_tail hN hL c1 c2 c3 c4 c5 c6)).run⟩
end Go.Proofs.YtnkobcokjalmoaaGreatDoor.Ax

namespace Go.Proofs.YtnkobcokjalmoaaGreatDoor.Ax
open Go.RowKit
set_option maxRecDepth 100000
noncomputable def cfgSf (N b : Nat) : Cfg := { P := Go.Proofs.Tryz.prog, T := tt, cuts := [3014, 3020], wr := false, N := N, pure := (cfgRl 0 0).pure, base := b, frz := frzF }
theorem cfgSfOk (N b : Nat) : (cfgSf N b).Ok := ⟨ttOk, ttBytes, by kernel_rfl⟩
def bF (B : List Bool) (i : Nat) : List IV := [.v (.bool (B.getD i false))]
@[reducible] def bRow (B : List Bool) : IV := .sl 1 B.length (bF B)
inductive SW (L : List Rec) where
 | none : SW L
 | at (i : Nat) (t : RS) (hi : i ≤ L.length) (h : t.Ok 4096 1 L i) (hk : t.k ≤ 8 * i) : SW L
def SW.i {L : List Rec} : SW L → Nat
 | .none => 0
 | .at i .. => i
def SW.sf {L : List Rec} : SW L → Nat
 | .none => 0
 | .at _ t .. => t.g.safe
def SW.H {L : List Rec} : SW L → AH
 | .none => rlC ⟨4096, [], 1, 0⟩ [] (-1) (VM.new 1073741824)
 | .at _ t .. => rlO t.g t.hd (-1) t.v t.sg
set_option maxHeartbeats 4000000 in
theorem rollSafe_law (l : List Rec) (hl : l.length ≤ 9223372036854775807 ∧ ∀ r ∈ l, r.W) (sy : List Bool) (hsy : sy.length ≤ 9223372036854775807) (P : List Int) (hP : P.length ≤ 17592186044416) : Law Go.Proofs.Tryz.prog 9 [recsA l, .iv (bRow sy), .iv (iRow P)] := by
 have hnum := numbered60_ok l hl.1 hl.2
 obtain ⟨hN, hL⟩ := numb_ok (cap := 60) l [] Numd.nil (Nat.zero_le _)
 have hN : Numd (numb 60 l) := hN
 have hL : (numb 60 l).length ≤ 60 := hL
 generalize numb 60 l = L at *
 refine ACall.fin ?_
 refine ACall.walk (C := cfgSf 185 0) (cfgSfOk _ _) sch9 (fn := Go.Proofs.Tryz.f9) (by kernel_rfl) (by kernel_rfl) rfl (by kernel_rfl) (by kernel_rfl) rfl rfl ?_
 refine goA ?_
 refine AFn.useA [] (hnum) fun _ => ?_
 refine goA ?_
 refine AFn.useA [] (new_fs 1073741824 (by decide)) fun _ => ?_
 refine goA ?_
 refine AFn.useA [0] (rollNew_ok 4096 1 (by decide) (VM.new 1073741824)) fun _ => ?_
 refine goA ?_
 refine AFn.useA [] (wakes13_ok) fun _ => ?_
 refine goA ?_
 refine AWP.loop (X := SW L) (fun x => [(0, recsA L), (1, .iv (bRow sy)), (2, .iv (iRow P)), (7, .ptr 0 0), (9, .ptr 1 0), (11, .ptr 3 0), (12, AV.int .u64 x.sf), (51, recsA L), (52, AV.int .i64 L.length), (53, AV.int .i64 x.i)]) (fun x => x.H) (fun x => L.length - x.i) (SW.none) ?_ fun x => AWP.go (S := sch9) (cfgSfOk _ _) (.of_eq (by kernel_rfl)) ?_
 ·refine (HEnt.ent (HEnt.addNil 128 5 (edF []))).trans ?_
  exact Ent.mk' (H' := rlC ⟨4096, [], 1, 0⟩ [] (-1) (VM.new 1073741824)) [some 0, some 1, some 2, some 3, some 4] (by kernel_rfl) ⟨AVE.refl _, AVE.refl _, AVE.refl _, AVE.refl _, AVE.refl _, AVE.refl _, AVE.refl _, AVE.refl _, AVE.refl _, AVE.refl _, trivial⟩ ⟨⟨_, rfl, ChE.refl _⟩, ⟨_, rfl, ChE.refl _⟩, ⟨_, rfl, ChE.refl _⟩, ⟨_, rfl, ChE.cells (by exact ⟨AVE.nil _ _, AVE.refl _, rfl⟩)⟩, ⟨_, rfl, ChE.refl _⟩, trivial⟩
 ·rcases x with _ | ⟨i, s, hi, hs, hk⟩
  ·dsimp only [SW.i, SW.sf]
   refine goA ?_
   refine ifdA (fun h => ?_) (fun h => ?_) <;> (try dsimp only at h)
   ·have hlt : 0 < L.length := by omega
    obtain ⟨t0, hA, hApp⟩ := RS.begins (RB.new (lim := 4096) (fst := 1) (Nat.le_refl 1)) rfl hN hlt (by decide) (by decide) (by decide)
    refine goA ?_
    apply AWP.aheadX (X := { t : RS // t.Ok 4096 1 L (0 + 1) ∧ t.k ≤ 8 * 0 + 6 ∧ 0 ≤ t.g.safe }) (C := cfgRl 185 0) (fun _ => [(0, recsA L), (1, .iv (bRow sy)), (2, .iv (iRow P)), (7, .ptr 0 0), (9, .ptr 1 0), (11, .ptr 3 0), (12, AV.int .u64 (0 : Nat)), (13, AV.int .i64 (0 : Nat)), (14, .ptr 6 0), (51, recsA L), (52, AV.int .i64 L.length), (53, AV.int .i64 (0 : Nat))]) (fun t => ⟨7, [(0, .sem (fsV t.1.v)), (1, rollP t.1.g 2 (.ptr 5 0)), (2, sealsP t.1.g), (3, earP 4 t.1.hd (-1)), (4, hdP t.1.hd), (5, segP t.1.sg), (6, boxR (L.getD 0 default))]⟩)
    ·intro key
     refine AFn.useA [0, 1, 2, 3, 4] (hApp) fun _ => ?_
     refine goA ?_
     exact ⟨(AWP.of_ent (C := cfgRl 185 0) (Ent.mkA [some 0, some 1, some 2, some 3, some 7, some 6, some 5]) (key ⟨t0, hA.ok, hA.kle, hA.safe⟩)).run⟩
    ·intro x
     obtain ⟨t, ht, htk, hts⟩ := x
     dsimp only
     have hin : 0 + 1 ≤ L.length := by omega
     have hsq : (L.getD 0 default).seq = 0 + 1 := hN.seq 0 (by omega)
     have hsle := ht.safeLe hin
     have hlast : lastR t.sg.s.last t.g.sealed = 0 + 1 := ht.last hN hin
     have htf := ht.few
     have hgl : t.g.sealed.length ≤ 1000 := by rw [ht.gs, sealsOf_len]; omega
     obtain ⟨ho, hsy2, hSy⟩ := RS.syncs ht (by omega) hN hin hL
     have hgl2 : t.synced.g.sealed.length ≤ 1000 := hgl
     have hlast2 : lastR t.synced.sg.s.last t.synced.g.sealed = 0 + 1 := ho.last hN hin
     have hk2 : t.synced.k ≤ 8 * 0 + 7 := by show t.k + 1 ≤ 8 * 0 + 7; omega
     generalize t.synced = u at *
     refine AWP.go (S := sch9) (cfgRlOk _ _) (.of_eq (by kernel_rfl)) ?_
     refine goA ?_
     refine ifdA (fun q1 => ?_) (fun q1 => ?_) <;> (try dsimp only at q1)
     ·refine goA ?_
      refine ifdA (fun q2 => ?_) (fun q2 => ?_) <;> (try dsimp only at q2)
      ·refine goA ?_
       refine AFn.useA [0, 1, 2, 3, 4, 5] (hSy) fun _ => ?_
       refine goA ?_
       refine AFn.useA [0, 1, 2, 3, 4, 5] (rollSafe_fn (v := u.v) (s := u.sg) u.g u.hd (-1)) fun _ => ?_
       refine goA ?_
       rw [decide_eq_false (show ¬ (u.g.safe : Int) ≠ ((L.getD 0 default).seq : Int) by omega)]
       refine goA ?_
       refine AFn.useA [0, 1, 2, 3, 4, 5] (rollSafe_fn (v := u.v) (s := u.sg) u.g u.hd (-1)) fun _ => ?_
       refine goA ?_
       refine AFn.useA [0, 1, 2, 3, 4, 5] (rollSafe_fn (v := u.v) (s := u.sg) u.g u.hd (-1)) fun _ => ?_
       refine goA ?_
       refine AFn.useA [0, 1, 2, 3, 4, 5] (lastO_ok u.g u.hd (-1) u.v u.sg hgl2) fun _ => ?_
       refine goA ?_
       refine ifdA (fun q6 => ?_) (fun q6 => ?_) <;> (try dsimp only at q6)
       ·exfalso; omega
       refine goA ?_
       refine AFn.useA [0, 1, 2, 3, 4, 5] (rollSafe_fn (v := u.v) (s := u.sg) u.g u.hd (-1)) fun _ => ?_
       refine goA ?_
       refine AWP.go (S := []) (cfgSfOk _ _) (.of_eq (by kernel_rfl)) ?_
       refine goA ?_
       refine ⟨SW.at (0 + 1) u (by omega) ho (by omega), ?_, by show L.length - (0 + 1) < L.length - 0; omega⟩
       show Ent _ _ _ _ _ (rlO u.g u.hd (-1) u.v u.sg)
       exact Ent.mk' [some 0, some 1, some 2, some 3, some 4, some 5] (by kernel_rfl) ⟨AVE.refl _, AVE.refl _, AVE.refl _, AVE.refl _, AVE.refl _, AVE.refl _, AVE.refl _, AVE.refl _, AVE.refl _, AVE.int (by show ((0 : Nat) : Int) + 1 = ((0 + 1 : Nat) : Int); omega), trivial⟩ subC
      ·refine goA ?_
       refine AFn.useA [0, 1, 2, 3, 4, 5] (rollSafe_fn (v := t.v) (s := t.sg) t.g t.hd (-1)) fun _ => ?_
       refine goA ?_
       refine AFn.useA [0, 1, 2, 3, 4, 5] (rollSafe_fn (v := t.v) (s := t.sg) t.g t.hd (-1)) fun _ => ?_
       refine goA ?_
       refine AFn.useA [0, 1, 2, 3, 4, 5] (lastO_ok t.g t.hd (-1) t.v t.sg hgl) fun _ => ?_
       refine goA ?_
       refine ifdA (fun q6 => ?_) (fun q6 => ?_) <;> (try dsimp only at q6)
       ·exfalso; omega
       refine goA ?_
       refine AFn.useA [0, 1, 2, 3, 4, 5] (rollSafe_fn (v := t.v) (s := t.sg) t.g t.hd (-1)) fun _ => ?_
       refine goA ?_
       refine AWP.go (S := []) (cfgSfOk _ _) (.of_eq (by kernel_rfl)) ?_
       refine goA ?_
       refine ⟨SW.at (0 + 1) t (by omega) ht (by omega), ?_, by show L.length - (0 + 1) < L.length - 0; omega⟩
       show Ent _ _ _ _ _ (rlO t.g t.hd (-1) t.v t.sg)
       exact Ent.mk' [some 0, some 1, some 2, some 3, some 4, some 5] (by kernel_rfl) ⟨AVE.refl _, AVE.refl _, AVE.refl _, AVE.refl _, AVE.refl _, AVE.refl _, AVE.refl _, AVE.refl _, AVE.refl _, AVE.int (by show ((0 : Nat) : Int) + 1 = ((0 + 1 : Nat) : Int); omega), trivial⟩ subC
     ·refine goA ?_
      refine AFn.useA [0, 1, 2, 3, 4, 5] (rollSafe_fn (v := t.v) (s := t.sg) t.g t.hd (-1)) fun _ => ?_
      refine goA ?_
      refine AFn.useA [0, 1, 2, 3, 4, 5] (rollSafe_fn (v := t.v) (s := t.sg) t.g t.hd (-1)) fun _ => ?_
      refine goA ?_
      refine AFn.useA [0, 1, 2, 3, 4, 5] (lastO_ok t.g t.hd (-1) t.v t.sg hgl) fun _ => ?_
      refine goA ?_
      refine ifdA (fun q6 => ?_) (fun q6 => ?_) <;> (try dsimp only at q6)
      ·exfalso; omega
      refine goA ?_
      refine AFn.useA [0, 1, 2, 3, 4, 5] (rollSafe_fn (v := t.v) (s := t.sg) t.g t.hd (-1)) fun _ => ?_
      refine goA ?_
      refine AWP.go (S := []) (cfgSfOk _ _) (.of_eq (by kernel_rfl)) ?_
      refine goA ?_
      refine ⟨SW.at (0 + 1) t (by omega) ht (by omega), ?_, by show L.length - (0 + 1) < L.length - 0; omega⟩
      show Ent _ _ _ _ _ (rlO t.g t.hd (-1) t.v t.sg)
      exact Ent.mk' [some 0, some 1, some 2, some 3, some 4, some 5] (by kernel_rfl) ⟨AVE.refl _, AVE.refl _, AVE.refl _, AVE.refl _, AVE.refl _, AVE.refl _, AVE.refl _, AVE.refl _, AVE.refl _, AVE.int (by show ((0 : Nat) : Int) + 1 = ((0 + 1 : Nat) : Int); omega), trivial⟩ subC
   ·have hz : L = [] := List.eq_nil_of_length_eq_zero (by omega)
    subst hz
    refine goA ?_
    exact ⟨(AWP.of_ent (C := cfgSh 185 0) (Ent.mkA [some 0, some 3, some 4]) (safe_mid hN hL P hP (hd := []) (sf := 0) (RB.new (lim := 4096) (fst := 1) (Nat.le_refl 1)).ri.ok (by decide) (by decide) (by decide) fun P' => ⟨[], 0, ⟨rfl, fun k hk => absurd hk (Nat.not_lt_zero k), fun k hk => absurd hk (Nat.not_lt_zero _)⟩, by decide, rfl, Nat.le_refl _, Nat.le_refl _, fun k hk => absurd hk (Nat.not_lt_zero k)⟩)).run⟩
  ·dsimp only [SW.i, SW.sf]
   refine goA ?_
   refine ifdA (fun h => ?_) (fun h => ?_) <;> (try dsimp only at h)
   ·have hlt : i < L.length := by omega
    have hApp := RS.goes hs hk hN hlt hL (by decide) (by decide) (by decide)
    refine goA ?_
    apply AWP.aheadX (X := { t : RS // t.Ok 4096 1 L (i + 1) ∧ t.k ≤ 8 * i + 6 ∧ s.g.safe ≤ t.g.safe }) (C := cfgRl 185 0) (fun _ => [(0, recsA L), (1, .iv (bRow sy)), (2, .iv (iRow P)), (7, .ptr 0 0), (9, .ptr 1 0), (11, .ptr 3 0), (12, AV.int .u64 s.g.safe), (13, AV.int .i64 i), (14, .ptr 6 0), (51, recsA L), (52, AV.int .i64 L.length), (53, AV.int .i64 i)]) (fun t => ⟨7, [(0, .sem (fsV t.1.v)), (1, rollP t.1.g 2 (.ptr 5 0)), (2, sealsP t.1.g), (3, earP 4 t.1.hd (-1)), (4, hdP t.1.hd), (5, segP t.1.sg), (6, boxR (L.getD i default))]⟩)
    ·intro key
     refine AFn.useA [0, 1, 2, 3, 4, 5] (hApp) fun x => ?_
     obtain ⟨⟨b, t⟩, hA⟩ := x
     cases b
     ·refine goA ?_
      exact ⟨(AWP.of_ent (C := cfgRl 185 0) (Ent.mkA [some 0, some 1, some 2, some 3, some 4, some 5, some 6]) (key ⟨t, hA.ok, hA.kle, hA.safe⟩)).run⟩
     ·refine goA ?_
      exact ⟨(AWP.of_ent (C := cfgRl 185 0) (Ent.mkA [some 0, some 1, some 7, some 3, some 9, some 8, some 6]) (key ⟨t, hA.ok, hA.kle, hA.safe⟩)).run⟩
    ·intro x
     obtain ⟨t, ht, htk, hts⟩ := x
     dsimp only
     have hin : i + 1 ≤ L.length := by omega
     have hsq : (L.getD i default).seq = i + 1 := hN.seq i (by omega)
     have hsle := ht.safeLe hin
     have hlast : lastR t.sg.s.last t.g.sealed = i + 1 := ht.last hN hin
     have htf := ht.few
     have hgl : t.g.sealed.length ≤ 1000 := by rw [ht.gs, sealsOf_len]; omega
     obtain ⟨ho, hsy2, hSy⟩ := RS.syncs ht (by omega) hN hin hL
     have hgl2 : t.synced.g.sealed.length ≤ 1000 := hgl
     have hlast2 : lastR t.synced.sg.s.last t.synced.g.sealed = i + 1 := ho.last hN hin
     have hk2 : t.synced.k ≤ 8 * i + 7 := by show t.k + 1 ≤ 8 * i + 7; omega
     generalize t.synced = u at *
     refine AWP.go (S := sch9) (cfgRlOk _ _) (.of_eq (by kernel_rfl)) ?_
     refine goA ?_
     refine ifdA (fun q1 => ?_) (fun q1 => ?_) <;> (try dsimp only at q1)
     ·refine goA ?_
      refine ifdA (fun q2 => ?_) (fun q2 => ?_) <;> (try dsimp only at q2)
      ·refine goA ?_
       refine AFn.useA [0, 1, 2, 3, 4, 5] (hSy) fun _ => ?_
       refine goA ?_
       refine AFn.useA [0, 1, 2, 3, 4, 5] (rollSafe_fn (v := u.v) (s := u.sg) u.g u.hd (-1)) fun _ => ?_
       refine goA ?_
       rw [decide_eq_false (show ¬ (u.g.safe : Int) ≠ ((L.getD i default).seq : Int) by omega)]
       refine goA ?_
       refine AFn.useA [0, 1, 2, 3, 4, 5] (rollSafe_fn (v := u.v) (s := u.sg) u.g u.hd (-1)) fun _ => ?_
       refine goA ?_
       refine ifdA (fun q5 => ?_) (fun q5 => ?_) <;> (try dsimp only at q5)
       ·exfalso; omega
       refine goA ?_
       refine AFn.useA [0, 1, 2, 3, 4, 5] (rollSafe_fn (v := u.v) (s := u.sg) u.g u.hd (-1)) fun _ => ?_
       refine goA ?_
       refine AFn.useA [0, 1, 2, 3, 4, 5] (lastO_ok u.g u.hd (-1) u.v u.sg hgl2) fun _ => ?_
       refine goA ?_
       refine ifdA (fun q6 => ?_) (fun q6 => ?_) <;> (try dsimp only at q6)
       ·exfalso; omega
       refine goA ?_
       refine AFn.useA [0, 1, 2, 3, 4, 5] (rollSafe_fn (v := u.v) (s := u.sg) u.g u.hd (-1)) fun _ => ?_
       refine goA ?_
       refine AWP.go (S := []) (cfgSfOk _ _) (.of_eq (by kernel_rfl)) ?_
       refine goA ?_
       refine ⟨SW.at (i + 1) u (by omega) ho (by omega), ?_, by show L.length - (i + 1) < L.length - i; omega⟩
       show Ent _ _ _ _ _ (rlO u.g u.hd (-1) u.v u.sg)
       exact Ent.mk' [some 0, some 1, some 2, some 3, some 4, some 5] (by kernel_rfl) ⟨AVE.refl _, AVE.refl _, AVE.refl _, AVE.refl _, AVE.refl _, AVE.refl _, AVE.refl _, AVE.refl _, AVE.refl _, AVE.int (by show ((i : Nat) : Int) + 1 = ((i + 1 : Nat) : Int); omega), trivial⟩ subC
      ·refine goA ?_
       refine AFn.useA [0, 1, 2, 3, 4, 5] (rollSafe_fn (v := t.v) (s := t.sg) t.g t.hd (-1)) fun _ => ?_
       refine goA ?_
       refine ifdA (fun q5 => ?_) (fun q5 => ?_) <;> (try dsimp only at q5)
       ·exfalso; omega
       refine goA ?_
       refine AFn.useA [0, 1, 2, 3, 4, 5] (rollSafe_fn (v := t.v) (s := t.sg) t.g t.hd (-1)) fun _ => ?_
       refine goA ?_
       refine AFn.useA [0, 1, 2, 3, 4, 5] (lastO_ok t.g t.hd (-1) t.v t.sg hgl) fun _ => ?_
       refine goA ?_
       refine ifdA (fun q6 => ?_) (fun q6 => ?_) <;> (try dsimp only at q6)
       ·exfalso; omega
       refine goA ?_
       refine AFn.useA [0, 1, 2, 3, 4, 5] (rollSafe_fn (v := t.v) (s := t.sg) t.g t.hd (-1)) fun _ => ?_
       refine goA ?_
       refine AWP.go (S := []) (cfgSfOk _ _) (.of_eq (by kernel_rfl)) ?_
       refine goA ?_
       refine ⟨SW.at (i + 1) t (by omega) ht (by omega), ?_, by show L.length - (i + 1) < L.length - i; omega⟩
       show Ent _ _ _ _ _ (rlO t.g t.hd (-1) t.v t.sg)
       exact Ent.mk' [some 0, some 1, some 2, some 3, some 4, some 5] (by kernel_rfl) ⟨AVE.refl _, AVE.refl _, AVE.refl _, AVE.refl _, AVE.refl _, AVE.refl _, AVE.refl _, AVE.refl _, AVE.refl _, AVE.int (by show ((i : Nat) : Int) + 1 = ((i + 1 : Nat) : Int); omega), trivial⟩ subC
     ·refine goA ?_
      refine AFn.useA [0, 1, 2, 3, 4, 5] (rollSafe_fn (v := t.v) (s := t.sg) t.g t.hd (-1)) fun _ => ?_
      refine goA ?_
      refine ifdA (fun q5 => ?_) (fun q5 => ?_) <;> (try dsimp only at q5)
      ·exfalso; omega
      refine goA ?_
      refine AFn.useA [0, 1, 2, 3, 4, 5] (rollSafe_fn (v := t.v) (s := t.sg) t.g t.hd (-1)) fun _ => ?_
      refine goA ?_
      refine AFn.useA [0, 1, 2, 3, 4, 5] (lastO_ok t.g t.hd (-1) t.v t.sg hgl) fun _ => ?_
      refine goA ?_
      refine ifdA (fun q6 => ?_) (fun q6 => ?_) <;> (try dsimp only at q6)
      ·exfalso; omega
      refine goA ?_
      refine AFn.useA [0, 1, 2, 3, 4, 5] (rollSafe_fn (v := t.v) (s := t.sg) t.g t.hd (-1)) fun _ => ?_
      refine goA ?_
      refine AWP.go (S := []) (cfgSfOk _ _) (.of_eq (by kernel_rfl)) ?_
      refine goA ?_
      refine ⟨SW.at (i + 1) t (by omega) ht (by omega), ?_, by show L.length - (i + 1) < L.length - i; omega⟩
      show Ent _ _ _ _ _ (rlO t.g t.hd (-1) t.v t.sg)
      exact Ent.mk' [some 0, some 1, some 2, some 3, some 4, some 5] (by kernel_rfl) ⟨AVE.refl _, AVE.refl _, AVE.refl _, AVE.refl _, AVE.refl _, AVE.refl _, AVE.refl _, AVE.refl _, AVE.refl _, AVE.int (by show ((i : Nat) : Int) + 1 = ((i + 1 : Nat) : Int); omega), trivial⟩ subC
   ·have hz : i = L.length := by omega
    have hf := hs.few
    refine goA ?_
    exact ⟨(AWP.of_ent (C := cfgSh 185 0) (Ent.mkA [some 0, some 3, some 4]) (safe_mid hN hL P hP (hd := s.hd) (sf := s.g.safe) hs.rb.ri.ok (by omega) (by omega) (by omega) fun P' => by
     obtain ⟨F, f1, ⟨M, f2, f3, f4⟩, f5⟩ := RS.crashed hs hi hL (by decide) P'
     exact ⟨F, M, RS.hf f1 fun k hk => (f5 k hk).1, by omega, f2, f3, f4, fun k hk => (f5 k hk).2⟩)).run⟩
end Go.Proofs.YtnkobcokjalmoaaGreatDoor.Ax

namespace Go.Proofs.YtnkobcokjalmoaaGreatDoor.Ax
open Go.ChangeShapes Go.WideShapes Go.RowKit
theorem sh_ints {x : IV} (h : (AT.sl [.int .i64]).Sh x) : ∃ P : List Int, P.length ≤ 9223372036854775807 ∧ IVE x (iRow P) := by
 simp only [AT.Sh, AT.Shs] at h
 obtain ⟨n, f, rfl, hn, hf⟩ := h
 obtain ⟨l, h1, _, h3⟩ := rows_of (f := f) (n := n) (fun z : Int => [IV.v (.int .i64 z)]) (fun _ => True) (fun i hi => by
  obtain ⟨y, ys, e, ⟨z, rfl, _⟩, rfl⟩ := hf i hi
  exact ⟨z, e, trivial⟩)
 refine ⟨l, by omega, ⟨fun ι v hr => ?_⟩⟩
 subst h1
 exact R_rows hr fun i hi => by rw [h3 i hi]; rfl
theorem sh_ints' {ι : Imm} {x : IV} {v : Value} (h : (AT.sl [.int .i64]).Sh x) (hr : IV.R ι x v) : ∃ L : List Int, IV.R ι (iRow L) v := by
 obtain ⟨L, _, hE⟩ := sh_ints h
 exact ⟨L, hE.run _ _ hr⟩
theorem ints_reach {H : Type} {enc : TypeId × Value → H} {P : Program} {w : World} {base : Nat} {spare : Nat → Bool} {held : Bool} {ι : Imm} {t e : TypeId} {v : Value} {d : DataW H} {ps : List MemPlace} {ts : List TypeId} {ds : List (DataW H)} {L : List Int}
 (ht : P.underlying t = some (.slice e)) (hb : P.bytesOf e = 8) (hd : DataW.Trod enc P w base spare held t v d ps) (hz : (DataW.weightsEach P ts ds).all (· ≤ reachBytes) = true) (j : Nat) (hts : ts[j]? = some t) (hds : ds[j]? = some d) (hr : IV.R ι (iRow L) v) : L.length ≤ 17592186044416 := by
 simp only [IV.R] at hr
 obtain ⟨A, c, rfl, _⟩ := hr
 obtain ⟨fuel, h⟩ := hd
 have hc : (Value.slice A L.length c).cells.toList = [.slice A L.length c] := rfl
 rw [hc] at h
 rcases Go.Deep.open_slice ht h with ⟨hcs, _⟩ | ⟨a, len, cap, m, n, D, Pl, hcs, _, _, _, _, hx, _⟩
 ·simp only [List.cons.injEq, Value.slice.injEq, and_true] at hcs
  omega
 ·simp only [List.cons.injEq, Value.slice.injEq, and_true] at hcs
  injection hx with hx _
  subst hx
  have := sized_slice hz hts hds ht
  rw [hb] at this
  simp only [List.length_map, List.length_range, reachBytes] at this
  omega
end Go.Proofs.YtnkobcokjalmoaaGreatDoor.Ax

namespace Go.Proofs.YtnkobcokjalmoaaGreatDoor.Ax
open Go.ChangeShapes Go.WideShapes Go.RowKit
theorem sh_bools' {ι : Imm} {x : IV} {v : Value} (h : (AT.sl [.bool]).Sh x) (hr : IV.R ι x v) : ∃ B : List Bool, B.length ≤ 9223372036854775807 ∧ IV.R ι (bRow B) v := by
 simp only [AT.Sh, AT.Shs] at h
 obtain ⟨n, f, rfl, hn, hf⟩ := h
 obtain ⟨l, h1, _, h3⟩ := rows_of (f := f) (n := n) (fun z : Bool => [IV.v (.bool z)]) (fun _ => True) (fun i hi => by
  obtain ⟨y, ys, e, ⟨z, rfl⟩, rfl⟩ := hf i hi
  exact ⟨z, e, trivial⟩)
 refine ⟨l, by omega, ?_⟩
 subst h1
 exact R_rows hr fun i hi => by rw [h3 i hi]; rfl
end Go.Proofs.YtnkobcokjalmoaaGreatDoor.Ax

namespace Go.Proofs.YtnkobcokjalmoaaGreatDoor.Ax
open Go.RowKit Go.ChangeShapes
theorem laid_mem {P : Program} {W : World} : ∀ {l : List (String × DataW Unit)} {ps : List MemPlace}, DataW.LaidVars P W l ps → ∀ {n d}, (n, d) ∈ l →
 ∃ g t cs fuel p, P.globalNamed n = some g ∧ (P.globals[g]?).map (·.type) = some t ∧ W.var? P n = some cs ∧ DataW.trod (fun _ => ()) P W 0 (fun _ => true) false fuel t cs.toList = some (d, p) ∧ ∀ q ∈ MemPlace.row ⟨g, 0, none⟩ cs.size ++ p, q ∈ ps
 | [], _, _, _, _, h => by cases h
 | (n', d') :: r, ps, h, n, d, hm => by
  obtain ⟨g, t, cs, fuel, p, q, h1, h2, h3, h4, h5, rfl⟩ := h
  rcases List.mem_cons.1 hm with hm | hm
  ·obtain ⟨rfl, rfl⟩ := Prod.mk.injEq .. ▸ hm
   exact ⟨g, t, cs, fuel, p, h1, h2, h3, h4, fun x hx => List.mem_append_left _ hx⟩
  ·obtain ⟨g', t', cs', fuel', p', k1, k2, k3, k4, k5⟩ := laid_mem h5 hm
   exact ⟨g', t', cs', fuel', p', k1, k2, k3, k4, fun x hx => List.mem_append_right _ (k5 x hx)⟩
theorem laid_one {P : Program} {W : World} {l : List (String × DataW Unit)} (h : laidMetH P l W) {n : String} {d : DataW Unit} (hm : (n, d) ∈ l) (hn : d.handleName?.isNone = true) :
 ∃ g t cs fuel p, P.globalNamed n = some g ∧ (P.globals[g]?).map (·.type) = some t ∧ W.var? P n = some cs ∧ DataW.trod (fun _ => ()) P W 0 (fun _ => true) false fuel t cs.toList = some (d, p) ∧
   ∀ b off, MemPlace.cell b off ∈ MemPlace.row ⟨g, 0, none⟩ cs.size ++ p → ∀ u v, W.cell? ⟨b, off, none⟩ = some (.iface u v) → Value.okWide P W .any 0 u v := by
 obtain ⟨h1, _⟩ := laidMetH_iff.1 h
 obtain ⟨ps, k1, _, k3⟩ := h1
 obtain ⟨g, t, cs, fuel, p, q1, q2, q3, q4, q5⟩ := laid_mem k1 (n := n) (d := d) (List.mem_filter.2 ⟨hm, hn⟩)
 exact ⟨g, t, cs, fuel, p, q1, q2, q3, q4, fun b off hb => (k3 b off (q5 _ hb)).2⟩
theorem pp_of {ι : Imm} {g : Nat} {l : List IV} {vs : List Value} (h : IV.Rs ι l vs) (hc : ∀ j u, vs[j]? = some u → ι g j = some u) : IV.R ι (.pp l) (.pointer (some ⟨g, 0, none⟩)) := by
 simp only [IV.R]
 exact ⟨⟨g, 0, none⟩, vs, rfl, rfl, h, fun j u hj => by simpa using hc j u hj⟩
theorem ints_Rs (ι : Imm) (k : IntKind) : ∀ ns : List Int, IV.Rs ι (ns.map fun n => .v (.int k n)) (ns.map fun n => Value.int k n)
 | [] => rfl
 | n :: ns => by
   rw [List.map_cons, List.map_cons]
   simp only [IV.Rs]
   exact ⟨_, _, rfl, by simp only [IV.R], ints_Rs ι k ns⟩
theorem ints_laid {P : Program} {W : World} {l : List (String × DataW Unit)} (h : laidMetH P l W) {n : String} {g t e : Nat} {k : IntKind} {ns : List Int} (hm : (n, .agg (ns.map fun x => .lit (.int k x))) ∈ l)
 (hP : P.globalNamed n = some g) (hT : (P.globals[g]?).map (·.type) = some t) (ht : P.underlying t = some (.array ns.length e)) (he : P.underlying e = some (.int k)) (hc : P.cellsOf e = 1) (_hct : P.cellsOf t = ns.length)
 (hn : (DataW.agg (ns.map fun x => .lit (.int k x)) : DataW Unit).handleName?.isNone = true) : IV.R (immOf W) (.pp (ns.map fun n => .v (.int k n))) (.pointer (some ⟨g, 0, none⟩)) := by
 obtain ⟨g', t', cs, fuel, p, h1, h2, h3, h4, _⟩ := laid_one h hm hn
 obtain rfl := Option.some.inj (hP.symm.trans h1)
 obtain rfl := Option.some.inj (hT.symm.trans h2)
 obtain ⟨xs, m, _, h5, h6, h7, h8⟩ := DataW.trod_array ht h4
 injection h5 with h5 _
 injection h5 with h5
 refine pp_of (ints_Rs _ k ns) fun j u hj => ?_
 rw [List.getElem?_map] at hj
 cases hnj : ns[j]? with
 | none => rw [hnj] at hj; cases hj
 | some z =>
   rw [hnj] at hj
   injection hj with hj
   subst hj
   have hlt : j < ns.length := (List.getElem?_eq_some_iff.1 hnj).1
   have hx := h8 j hlt
   have hxj : xs[j]?.map (·.1) = some (.lit (.int k z)) := by
    have := congrArg (fun l => l[j]?) h5
    simp only [List.getElem?_map, hnj, Option.map_some] at this
    rw [← this]
   cases hq : xs[j]? with
   | none => rw [hq] at hxj; cases hxj
   | some x =>
     rw [hq] at hx hxj
     obtain ⟨z', e1, e2, _⟩ := DataW.trod_int he hx
     rw [e2] at hxj
     injection hxj with hxj
     injection hxj with hxj
     injection hxj with _ hxj
     subst hxj
     rw [hc, Nat.mul_one] at e1
     have hcell := World.var?_cell hP h3 j
     have : cs[j]? = some (.int k z') := by
      have hh : (cs.toList.drop j).take 1 = [Value.int k z'] := e1
      have : (cs.toList.drop j)[0]? = some (Value.int k z') := by
       have := congrArg (fun l => l[0]?) hh
       simpa using this
      simpa using this
     exact immOf_mk (by rw [hcell, this]) rfl
end Go.Proofs.YtnkobcokjalmoaaGreatDoor.Ax

namespace Go.Proofs.YtnkobcokjalmoaaGreatDoor.Ax
open Go.ChangeShapes Go.WideShapes Go.ChangeAt Go.RowKit Go.Deep
def flatT (P : Program) (F : List Field) : List (Nat × TypeId) := F.flatMap fun f => match P.underlying f.type with
 | some (.struct G) => G.toList.map fun g => (f.offset + g.offset, g.type)
 | _ => [(f.offset, f.type)]
def flatOk (P : Program) (F : List Field) : Bool := F.all fun f => match P.underlying f.type with
 | some (.struct G) => G.toList.all fun g => decide (g.offset < P.cellsOf f.type)
 | _ => true
def slB (P : Program) (fs : List AT) (t : TypeId) : Bool := match P.underlying t with
 | some (.slice e) => Nat.beq (P.cellsOf e) fs.length && (!(Nat.beq fs.length 0) && (match P.underlying e with
   | some (.struct F) => AT.fitssB P fs (flatT P F.toList) 0 && flatOk P F.toList
   | _ => false))
 | _ => false
section
variable {H : Type} {enc : TypeId × Value → H} {P : Program} {w : World} {base : Nat} {spare : Nat → Bool} {held : Bool}
theorem open_flat {fs : List AT} {t : TypeId} {v : Value} {d : DataW H} {ps : List MemPlace} {r : Reach} {b0 : Nat} (hB : slB P fs t = true) (hval : Value.okWide P w r b0 t v) (hd : DataW.Trod enc P w base spare held t v d ps) : ∃ x, (AT.sl fs).Sh x ∧ IV.R (immOf w) x v := by
 unfold slB at hB
 split at hB
 ·rename_i e ht
  rw [Bool.and_eq_true, Bool.and_eq_true] at hB
  obtain ⟨hc, hz, h3⟩ := hB
  have hc : P.cellsOf e = fs.length := Nat.eq_of_beq_eq_true hc
  have hz : fs.length ≠ 0 := fun h0 => by (rw [h0] at hz; cases hz)
  split at h3
  ·rename_i F hF
   rw [Bool.and_eq_true] at h3
   obtain ⟨hft, hfk⟩ := h3
   have hft := fitss_of fs _ 0 hft
   obtain ⟨fuel, h⟩ := hd
   have hc0 : v.cells.toList = [v] := by
    obtain ⟨a0, l0, c0, rfl⟩ := okWide_slice ht hval
    rfl
   rw [hc0] at h
   have hmx : maxLen = 9223372036854775807 := by decide
   rcases open_slice ht h with ⟨hcs, _⟩ | ⟨a, len, cap, m, n, D, Pl, hcs, _, hl, hm, hmm, _, hi⟩
   ·simp only [List.cons.injEq, and_true] at hcs
    subst hcs
    refine ⟨.sl fs.length 0 fun _ => [], by simp only [AT.Sh]; exact ⟨0, _, rfl, by omega, fun i hi => by omega⟩, ?_⟩
    simp only [IV.R]
    exact ⟨none, 0, rfl, Nat.le_refl _, Nat.zero_le _, fun k hk => by omega⟩
   ·simp only [List.cons.injEq, and_true] at hcs
    subst hcs
    have hlm : len ≤ m := by rw [hmm]; split <;> omega
    have each : ∀ i, i < len → ∃ xs vs, AT.Shs fs xs ∧ IV.Rs (immOf w) xs vs ∧ ∀ j u, vs[j]? = some u → w.cell? ((a.add (i * fs.length)).add j) = some u := fun i hil => by
     obtain ⟨cs', hcell, htr⟩ := hi i (by omega)
     rw [hc] at hcell
     obtain ⟨_, hcl, hat⟩ := World.cells?_some hcell
     have hcell' : ∀ j u, cs'[j]? = some u → w.cell? ((a.add (i * fs.length)).add j) = some u := fun j u hj => by
      have : j < fs.length := by rw [← hcl]; exact (List.getElem?_eq_some_iff.1 hj).1
      rw [hat j this]; exact hj
     obtain ⟨ys, n', _, _, _, hyl, hfd⟩ := DataW.trod_struct hF htr
     obtain ⟨hfl, hfo⟩ := fitss_at hft
     obtain ⟨xs, h1, h2⟩ := open_ats fs _ 0 cs' hft hcl (fun j q hj => by
      obtain ⟨k1, k2⟩ := hfo j q hj
      simp only [Nat.zero_add] at k1
      have hjl : j < fs.length := by rw [← hfl]; exact (List.getElem?_eq_some_iff.1 hj).1
      have hone : (cs'.drop j).take 1 = [cs'[j]'(by omega)] := by
       rw [List.drop_eq_getElem_cons (by omega)]
       rfl
      obtain ⟨g, hg, hq⟩ := List.mem_flatMap.1 (List.mem_of_getElem? hj)
      obtain ⟨gi, hgi⟩ := List.getElem?_of_mem hg
      have h1 := hfd gi g (by simpa using hgi)
      have hgl : gi < ys.length := by rw [hyl]; simpa using (List.getElem?_eq_some_iff.1 hgi).1
      rw [List.getElem?_eq_getElem hgl] at h1
      have hok := List.all_eq_true.1 hfk g hg
      split at hq
      ·rename_i G hG
       obtain ⟨s, hs, rfl⟩ := List.mem_map.1 hq
       rw [hG] at hok
       have hsl := List.all_eq_true.1 hok s hs
       rw [decide_eq_true_eq] at hsl
       obtain ⟨zs, n'', _, _, _, hzl, hsd⟩ := DataW.trod_struct hG h1
       obtain ⟨si, hsi⟩ := List.getElem?_of_mem hs
       have h2 := hsd si s (by simpa using hsi)
       have hzl' : si < zs.length := by rw [hzl]; simpa using (List.getElem?_eq_some_iff.1 hsi).1
       rw [List.getElem?_eq_getElem hzl', k2, List.drop_take, List.drop_drop, List.take_take, Nat.min_eq_left (by omega)] at h2
       simp only at k1
       rw [k1, hone] at h2
       exact ⟨n'', _, _, List.getElem?_eq_getElem (by omega), h2⟩
      ·obtain rfl := List.mem_singleton.1 hq
       simp only at k1 k2
       rw [k1, k2, hone] at h1
       exact ⟨n', _, _, List.getElem?_eq_getElem (by omega), h1⟩)
     exact ⟨xs, cs', h1, h2, hcell'⟩
    let f : Nat → List IV := fun i => if h : i < len then Classical.choose (each i h) else []
    have hfi : ∀ i (h : i < len), f i = Classical.choose (each i h) := fun i h => by simp only [f, dif_pos h]
    refine ⟨.sl fs.length len f, by simp only [AT.Sh]; exact ⟨len, f, rfl, by omega, fun i hil => by rw [hfi i hil]; exact (Classical.choose_spec (each i hil)).choose_spec.1⟩, ?_⟩
    simp only [IV.R]
    refine ⟨some a, cap, rfl, hl, hm, fun k hk => ?_⟩
    obtain ⟨vs, g1, g2, g3⟩ := Classical.choose_spec (each k hk)
    rw [← hfi k hk] at g1 g2
    obtain ⟨g4, g5⟩ := Shs_one fs _ _ g1 g2
    have hs : a.spot = none := by
     obtain ⟨vs0, q1, q2, q3⟩ := Classical.choose_spec (each 0 (by omega))
     obtain ⟨_, q5⟩ := Shs_one fs _ _ q1 q2
     obtain ⟨v0, vr, hvs⟩ : ∃ v0 vr, vs0 = v0 :: vr := by
      cases vs0 with
      | nil => simp at q5; omega
      | cons v0 vr => exact ⟨v0, vr, rfl⟩
     have h0 := q3 0 v0 (by rw [hvs]; rfl)
     rw [Nat.zero_mul, show (a.add 0).add 0 = a by simp [Addr.add]] at h0
     exact cell_spot h0
    refine ⟨a, vs, rfl, hs, g2, g5, fun j u hj => ?_⟩
    have hcl := g3 j u hj
    rw [add_none' hs, add_none] at hcl
    exact immOf_mk hcl (g4 u (List.mem_of_getElem? hj))
  ·cases h3
 ·cases hB
end
end Go.Proofs.YtnkobcokjalmoaaGreatDoor.Ax

namespace Go.Proofs.YtnkobcokjalmoaaGreatDoor.Ax
open Go.ChangeShapes Go.WideShapes Go.RowKit
theorem rows_ofE {α : Type} [Inhabited α] {n : Nat} {f : Nat → List IV} (g : α → List IV) (Q : α → Prop) (h : ∀ i, i < n → ∃ c, IVEs (f i) (g c) ∧ Q c) : ∃ l : List α, l.length = n ∧ (∀ c ∈ l, Q c) ∧ ∀ i, i < n → IVEs (f i) (g (l.getD i default)) := by
 induction n with
 | zero => exact ⟨[], rfl, fun c hc => by (cases hc), fun i hi => by omega⟩
 | succ n ih =>
   obtain ⟨l, h1, h2, h3⟩ := ih fun i hi => h i (by omega)
   obtain ⟨c, e, q⟩ := h n (by omega)
   refine ⟨l ++ [c], by simp [h1], fun x hx => ?_, fun i hi => ?_⟩
   ·rcases List.mem_append.1 hx with hx | hx
    ·exact h2 x hx
    ·simp only [List.mem_singleton] at hx
     subst hx
     exact q
   ·by_cases hi' : i < n
    ·have := h3 i hi'
     rw [List.getD_eq_getElem?_getD] at this ⊢
     rw [List.getElem?_append_left (by omega)]
     exact this
    ·have : i = n := by omega
     subst this
     have e2 : (l ++ [c]).getD i default = c := by simp [List.getD, ← h1]
     rw [e2]
     exact e
theorem R_rowsE {ι : Imm} {sz n : Nat} {f f' : Nat → List IV} {v : Value} (h : IV.R ι (.sl sz n f) v) (hf : ∀ i, i < n → IVEs (f i) (f' i)) : IV.R ι (.sl sz n f') v := by
 have := (AVE.sl hf).run (fun _ => none) ι v (by simpa only [AV.R] using h)
 simpa only [AV.R] using this
theorem sh_recs {ι : Imm} {x : IV} {v : Value} (h : (AT.sl [.int .u64, .int .i64, .bytes, .bytes, .int .u32, .int .u32]).Sh x) (hr : IV.R ι x v) : ∃ l : List Rec, (l.length ≤ 9223372036854775807 ∧ ∀ r ∈ l, r.W) ∧ IV.R ι (.sl 6 l.length (recF l)) v := by
 simp only [AT.Sh] at h
 obtain ⟨n, f, rfl, hn, hf⟩ := h
 obtain ⟨l, h1, h2, h3⟩ := rows_ofE (f := f) (n := n) recI Rec.W (fun i hi => by
  have hfi := hf i hi
  simp only [AT.Shs, AT.Sh] at hfi
  obtain ⟨_, _, e, ⟨a, rfl, ha⟩, _, _, rfl, ⟨b, rfl, _⟩, _, _, rfl, ⟨c, rfl, hc⟩, _, _, rfl, ⟨d, rfl, hd⟩, _, _, rfl, ⟨g, rfl, hg⟩, _, _, rfl, ⟨k, rfl, hk⟩, rfl⟩ := hfi
  have ha := bounds_u64 ha
  have hg := bounds_u32 hg
  have hk := bounds_u32 hk
  refine ⟨⟨a.toNat, b, c, d, g.toNat, k.toNat⟩, ?_, hc, hd⟩
  rw [e]
  show IVEs _ [IV.v (.int .u64 (a.toNat : Int)), IV.v (.int .i64 b), .bs c, .bs d, IV.v (.int .u32 (g.toNat : Int)), IV.v (.int .u32 (k.toNat : Int))]
  rw [Int.toNat_of_nonneg (by omega), Int.toNat_of_nonneg (by omega), Int.toNat_of_nonneg (by omega)]
  exact IVEs.refl _)
 exact ⟨l, ⟨by rw [h1]; exact hn, h2⟩, by rw [h1]; exact R_rowsE hr h3⟩
end Go.Proofs.YtnkobcokjalmoaaGreatDoor.Ax
