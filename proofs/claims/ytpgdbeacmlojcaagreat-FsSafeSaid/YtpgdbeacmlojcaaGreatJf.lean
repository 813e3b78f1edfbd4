/-
  Chapter 07: what is refused; the fuse: the law's walk.
-/
import Derived.Test.YtpgdbeacmlojcaaGreatQl
namespace Go.Proofs.YtpgdbeacmlojcaaGreat.Ax
open Go.RowKit
set_option maxRecDepth 100000
@[reducible] def rowA (l : List FAct) : AV := .iv (.sl 7 l.length fun i => actF (l.getD i default))
theorem FAct.Ok.dflt : FAct.Ok default := ⟨by decide, by decide, by decide⟩
theorem getD_ok {l : List FAct} (h : ∀ a ∈ l, a.Ok) (i : Nat) : (l.getD i default).Ok := by
  rcases Nat.lt_or_ge i l.length with hi | hi
  · rw [List.getD_eq_getElem?_getD, List.getElem?_eq_getElem hi]
    exact h _ (List.getElem_mem hi)
  · rw [List.getD_eq_getElem?_getD, List.getElem?_eq_none hi]
    exact FAct.Ok.dflt
/-- How far the calls have come. -/
structure RfS (l : List FAct) where
  i : Nat
  v : VM
  ok : v.Ok i (60 * i) i
  up : v.Up
  hi : i ≤ 60
  hil : i ≤ l.length
/-- How many steps the fuse has let through. -/
structure FzS (v : VM) (fz : Int) where
  j : Nat
  hj : (j : Int) ≤ fz
  u : VM
  ok : u.Ok (60 + j) 3600 (60 + j)
  off : u.off = false
  fuse : u.fuse = fz - j
  steps : u.steps = v.steps + j
theorem VM.new_up (q : Int) : (VM.new q).Up := ⟨rfl, rfl⟩
theorem stL_len {n B k : Nat} {v : VM} (h : v.Ok n B k) : v.stL.length ≤ 2 * n := by
  have h1 := prs_length (fun x => v.read x 0 (v.size x)) v.list
  have h2 := list_len v
  have h3 := h.nowLen
  unfold VM.stL
  omega
noncomputable def cfgRf (N b : Nat) : Cfg := { P := Go.Proofs.Tryz.prog, T := tt, wr := false, N := N, pure := [], base := b, frz := fun _ => false }
theorem cfgRfOk (N b : Nat) : (cfgRf N b).Ok := ⟨ttOk, ttBytes, by kernel_rfl⟩
set_option maxHeartbeats 4000000 in
theorem refused_law (l : List FAct) (hl : ∀ a ∈ l, a.Ok) (fz : Int) (hz : 0 ≤ fz ∧ fz ≤ 255) : Law Go.Proofs.Tryz.prog 5 [rowA l, AV.int .u8 fz] := by
  refine ACall.fin ?_
  refine ACall.walkF (C := cfgRf 153 0) (cfgRfOk _ _) [] (fn := Go.Proofs.Tryz.f5) (by kernel_rfl) (by kernel_rfl) rfl (by kernel_rfl) (by kernel_rfl) rfl rfl fun hlen hheap => ?_
  obtain ⟨hl1, _⟩ := hlen
  simp only [lenF] at hl1
  (conv => whnf); repeat (refine sideI ?_; conv => whnf)
  refine AFn.useA [] (new_fs 100 (by decide)) fun _ => ?_
  (conv => whnf); repeat (refine sideI ?_; conv => whnf)
  refine AFn.useA [] (wakes_ok) fun _ => ?_
  (conv => whnf); repeat (refine sideI ?_; conv => whnf)
  refine AWP.merge (Y := RfS l) (fun y => [(1, AV.int .u8 fz), (5, .ptr 0 0)]) (fun y => fone y.v) 0 (fun y => ?_) ?_
  · obtain ⟨i, v, ok, up, hi, hil⟩ := y
    have hst := ok.steps
    (conv => whnf); repeat (refine sideI ?_; conv => whnf)
    refine AFn.useA [0] (fsSteps (v := v)) fun _ => ?_
    rw [show (bif v.off then 0 else v.steps) = v.steps by rw [up.off]; rfl]
    (conv => whnf); repeat (refine sideI ?_; conv => whnf)
    refine AFn.useA [0] (fsFuse (v := v) fz (by omega)) fun _ => ?_
    rw [show v.powE = 0 by simp [VM.powE, up.off]]
    (conv => whnf); repeat (refine sideI ?_; conv => whnf)
    have ok1 : (v.fuseSet fz).Ok (60 + 0) 3600 (60 + 0) := (ok.fuseSet (by omega)).more (by omega) (by omega) (by omega)
    have e1 : v.fuseSet fz = { v with fuse := fz } := by
      unfold VM.fuseSet
      rw [if_neg (by rw [up.off]; decide), show max fz (-1) = fz by omega]
    refine AWP.loop (X := FzS v fz) (fun x => [(1, AV.int .u8 fz), (5, .ptr 0 0), (11, AV.int .i64 v.steps), (76, AV.int .i64 fz), (77, AV.int .i64 x.j)]) (fun x => fone x.u) (fun x => (fz - x.j).toNat) (⟨0, by omega, v.fuseSet fz, ok1, by rw [e1]; exact up.off, by rw [e1]; show fz = fz - ((0 : Nat) : Int); omega, by rw [e1]; show v.steps = v.steps + ((0 : Nat) : Int); omega⟩) ?_ fun x => AWP.go (S := []) (cfgRfOk _ _) (.of_eq (by kernel_rfl)) ?_
    · exact Ent.mkA [some 0]
    · obtain ⟨j, hj, u, oku, off, fuse, steps⟩ := x
      (conv => whnf); repeat (refine sideI ?_; conv => whnf)
      refine branchB_of (fun g => ?_) (fun g => ?_) <;> (first | replace g := not_t g | replace g := not_f g | skip) <;> (first | replace g := of_decide_eq_true g | replace g := of_decide_eq_false g | skip) <;> (first | replace g := Classical.not_not.1 g | skip) <;> (try dsimp only at g)
      · have hne : u.fuse ≠ 0 := by omega
        have hE : u.syncDirE = 0 := stepE_on off hne _
        have hv : u.syncDir = (u.tick.syncDir1).clean := stepV_on off hne _
        have ok2 : u.syncDir.Ok (60 + (j + 1)) 3600 (60 + (j + 1)) := oku.syncDir
        have h1 : u.syncDir.off = false := by rw [hv]; exact off
        have h2 : u.syncDir.fuse = fz - ((j + 1 : Nat) : Int) := by
          rw [hv]
          show max (u.fuse - 1) (-1) = _
          omega
        have h3 : u.syncDir.steps = v.steps + ((j + 1 : Nat) : Int) := by
          rw [hv]
          show u.steps + 1 = _
          omega
        (conv => whnf); repeat (refine sideI ?_; conv => whnf)
        refine AFn.useA [0] (fsSyncDir oku (by omega) (by omega) (by omega)) fun _ => ?_
        rw [hE]
        (conv => whnf); repeat (refine sideI ?_; conv => whnf)
        refine AFn.useA [0] (fsSteps (v := u.syncDir)) fun _ => ?_
        rw [show (bif u.syncDir.off then 0 else u.syncDir.steps) = v.steps + j + 1 by rw [h1, h3]; show v.steps + ((j + 1 : Nat) : Int) = _; omega]
        (conv => whnf); repeat (refine sideI ?_; conv => whnf)
        refine branchB_of (fun g2 => ?_) (fun g2 => ?_) <;> (first | replace g2 := not_t g2 | replace g2 := not_f g2 | skip) <;> (first | replace g2 := of_decide_eq_true g2 | replace g2 := of_decide_eq_false g2 | skip) <;> (first | replace g2 := Classical.not_not.1 g2 | skip) <;> (try dsimp only at g2)
        · exact absurd rfl g2
        (conv => whnf); repeat (refine sideI ?_; conv => whnf)
        refine ⟨⟨j + 1, by omega, u.syncDir, ok2, h1, h2, h3⟩, Ent.mkA [some 0], ?_⟩
        show (fz - ((j + 1 : Nat) : Int)).toNat < (fz - (j : Int)).toNat
        omega
      · have hjz : (j : Int) = fz := by omega
        have h0 : u.fuse = 0 := by omega
        have oku : u.Ok 400 3600 400 := oku.more (by omega) (Nat.le_refl _) (by omega)
        have hnf : ¬ u.off = true := by rw [off]; decide
        have c1 : u.createE [110, 101, 119] = 20 := by unfold VM.createE VM.stepE; rw [if_neg hnf, if_pos h0]
        have c2 : u.create [110, 101, 119] = { u with steps := u.steps + 1, off := true } := by unfold VM.create VM.stepV; rw [if_neg hnf, if_pos h0]
        have ok1 := oku.create [110, 101, 119]
        have hw : ∀ w : VM, w.fd = u.fd → w.fs = u.fs → (w.crash []).stL = (u.crash []).stL := fun w h1 h2 => by
          have e1 : (w.crash1 []).fd = (u.crash1 []).fd := by unfold VM.crash1 VM.clean; simp only [h1]
          have e2 : (w.crash1 []).fs = (u.crash1 []).fs := by unfold VM.crash1 VM.clean; simp only [h1, h2]
          refine stL_of rfl e1 ?_
          unfold VM.crash
          simp only [e1, e2]
        have hst1 : (u.create [110, 101, 119]).steps = v.steps + fz + 1 := by rw [c2]; show u.steps + 1 = _; omega
        have hofd : (u.create [110, 101, 119]).fd = u.fd := by rw [c2]
        have hofs : (u.create [110, 101, 119]).fs = u.fs := by rw [c2]
        have hoff : (u.create [110, 101, 119]).off = true := by rw [c2]
        (conv => whnf); repeat (refine sideI ?_; conv => whnf)
        refine AFn.useA [0] (fsCopy oku (by omega) (by omega)) fun _ => ?_
        (conv => whnf); repeat (refine sideI ?_; conv => whnf)
        refine AFn.useA [0] (fsCreate oku (by omega) (by omega) (by omega) [110, 101, 119]) fun _ => ?_
        rw [c1]
        generalize u.create [110, 101, 119] = u1 at *
        (conv => whnf); repeat (refine sideI ?_; conv => whnf)
        refine AFn.useA [0] (fsOn (v := u1)) fun _ => ?_
        rw [show (!u1.off) = false by rw [hoff]; rfl]
        (conv => whnf); repeat (refine sideI ?_; conv => whnf)
        refine AFn.useA [0] (fsSyncDir ok1 (by omega) (by omega) (by omega)) fun _ => ?_
        rw [show u1.syncDirE = 20 from if_pos hoff, show u1.syncDir = u1 from if_pos hoff]
        (conv => whnf); repeat (refine sideI ?_; conv => whnf)
        have hL := fsList ok1 (by omega)
        rw [show u1.list = [] from if_pos hoff] at hL
        refine AFn.useA [0] (hL) fun _ => ?_
        (conv => whnf); repeat (refine sideI ?_; conv => whnf)
        refine AFn.useA [0] (fsFuse (v := u1) 5 (by decide)) fun _ => ?_
        rw [show u1.powE = 20 by simp [VM.powE, hoff], show u1.fuseSet 5 = u1 from if_pos hoff]
        (conv => whnf); repeat (refine sideI ?_; conv => whnf)
        have hop : u1.openE [97] = 20 := if_pos hoff
        refine AFn.useA [0] (fsSize ok1 [97]) fun _ => ?_
        rw [hop]
        (conv => whnf); repeat (refine sideI ?_; conv => whnf)
        refine ACall.argsE [.ptr 1 0, .iv (iRow [])] ⟨AVE.refl _, AVE.nilSl' _ _, rfl⟩ ?_
        refine AFn.useA [1] (fsCrashGood oku (by omega) (by omega) (P := []) (by decide) (by decide)) fun _ => ?_
        (conv => whnf); repeat (refine sideI ?_; conv => whnf)
        refine ACall.argsE [.ptr 0 0, .iv (iRow [])] ⟨AVE.refl _, AVE.nilSl' _ _, rfl⟩ ?_
        refine AFn.useA [0] (fsCrashGood ok1 (by omega) (by omega) (P := []) (by decide) (by decide)) fun _ => ?_
        (conv => whnf); repeat (refine sideI ?_; conv => whnf)
        refine AFn.useA [0] (fsOn (v := u1.crash [])) fun _ => ?_
        rw [show (!(u1.crash []).off) = true from rfl]
        (conv => whnf); repeat (refine sideI ?_; conv => whnf)
        have okc := ok1.crash []
        have okd := oku.crash []
        have l1 := stL_len okc
        have l2 := stL_len okd
        refine AFn.useA [0] (state_ok okc (by omega) (by omega)) fun _ => ?_
        (conv => whnf); repeat (refine sideI ?_; conv => whnf)
        refine AFn.useA [1] (state_ok okd (by omega) (by omega)) fun _ => ?_
        (conv => whnf); repeat (refine sideI ?_; conv => whnf)
        refine AFn.useA [] (equalS_ok (u1.crash []).stL (u.crash []).stL (by omega) (by omega)) fun _ => ?_
        rw [decide_eq_true (hw u1 hofd hofs)]
        (conv => whnf); repeat (refine sideI ?_; conv => whnf)
        refine AFn.useA [0] (fsSteps (v := u1.crash [])) fun _ => ?_
        rw [show (bif (u1.crash []).off then 0 else (u1.crash []).steps) = v.steps + fz + 1 from hst1]
        (conv => whnf); repeat (refine sideI ?_; conv => whnf)
        refine ⟨_, _, Ent.mk' (e' := [(0, AV.bool true)]) (H' := ⟨0, []⟩) [] (by kernel_rfl) ?_ ?_, (), rfl, rfl⟩
        · exact ⟨AVE.bool (by simp), trivial⟩
        · trivial
  refine AWP.loop (X := RfS l) (fun x => [(1, AV.int .u8 fz), (5, .ptr 0 0), (26, rowA l), (27, AV.int .i64 l.length), (28, AV.int .i64 x.i)]) (fun x => fone x.v) (fun x => 60 - x.i) (⟨0, VM.new 100, .new (by decide) _ _ _, VM.new_up 100, by omega, by omega⟩) ?_ fun x => AWP.go (S := []) (cfgRfOk _ _) (.of_eq (by kernel_rfl)) ?_
  · exact Ent.mkA [some 0]
  · obtain ⟨i, v, ok, up, hi, hil⟩ := x
    (conv => whnf); repeat (refine sideI ?_; conv => whnf)
    refine branchB_of (fun h => ?_) (fun h => ?_) <;> (first | replace h := not_t h | replace h := not_f h | skip) <;> (first | replace h := of_decide_eq_true h | replace h := of_decide_eq_false h | skip) <;> (first | replace h := Classical.not_not.1 h | skip) <;> (try dsimp only at h)
    rotate_left
    · (conv => whnf); repeat (refine sideI ?_; conv => whnf)
      exact ⟨⟨i, v, ok, up, hi, hil⟩, Ent.mkA [some 0]⟩
    generalize hc : l.getD ((i : Nat) : Int).toNat default = a
    have ha : a.Ok := hc ▸ getD_ok hl _
    (conv => whnf); repeat (refine sideI ?_; conv => whnf)
    rw [hc]
    refine branchB_of (fun h2 => ?_) (fun h2 => ?_) <;> (first | replace h2 := not_t h2 | replace h2 := not_f h2 | skip) <;> (first | replace h2 := of_decide_eq_true h2 | replace h2 := of_decide_eq_false h2 | skip) <;> (first | replace h2 := Classical.not_not.1 h2 | skip) <;> (try dsimp only at h2)
    · (conv => whnf); repeat (refine sideI ?_; conv => whnf)
      exact ⟨⟨i, v, ok, up, hi, hil⟩, Ent.mkA [some 0]⟩
    have hlt : i < 60 := by omega
    (conv => whnf); repeat (refine sideI ?_; conv => whnf)
    refine AFn.useA [0] (state_ok ok (by omega) (by omega)) fun _ => ?_
    (conv => whnf); repeat (refine sideI ?_; conv => whnf)
    have hskip : VM.Ok (i + 1) (60 * (i + 1)) (i + 1) v := ok.more (by omega) (by omega) (by omega)
    by_cases g9 : a.what = 9
    · rw [decide_eq_true g9]
      (conv => whnf); repeat (refine sideI ?_; conv => whnf)
      refine ⟨⟨i + 1, v, hskip, up, by omega, by omega⟩, Ent.mkA [some 0], ?_⟩
      show 60 - (i + 1) < 60 - i
      omega
    rw [decide_eq_false g9]
    (conv => whnf); repeat (refine sideI ?_; conv => whnf)
    by_cases g10 : a.what = 10
    · rw [decide_eq_true g10]
      (conv => whnf); repeat (refine sideI ?_; conv => whnf)
      refine ⟨⟨i + 1, v, hskip, up, by omega, by omega⟩, Ent.mkA [some 0], ?_⟩
      show 60 - (i + 1) < 60 - i
      omega
    rw [decide_eq_false g10]
    (conv => whnf); repeat (refine sideI ?_; conv => whnf)
    by_cases g12 : a.what = 12
    · rw [decide_eq_true g12]
      (conv => whnf); repeat (refine sideI ?_; conv => whnf)
      refine ⟨⟨i + 1, v, hskip, up, by omega, by omega⟩, Ent.mkA [some 0], ?_⟩
      show 60 - (i + 1) < 60 - i
      omega
    rw [decide_eq_false g12]
    (conv => whnf); repeat (refine sideI ?_; conv => whnf)
    by_cases g13 : a.what = 13
    · rw [decide_eq_true g13]
      (conv => whnf); repeat (refine sideI ?_; conv => whnf)
      refine ⟨⟨i + 1, v, hskip, up, by omega, by omega⟩, Ent.mkA [some 0], ?_⟩
      show 60 - (i + 1) < 60 - i
      omega
    rw [decide_eq_false g13]
    (conv => whnf); repeat (refine sideI ?_; conv => whnf)
    refine AFn.useA [0] (fdoes_ok ok (by omega) (by omega) (by omega) ha) fun _ => ?_
    have ok2 : (v.does a).Ok (i + 1) (60 * (i + 1)) (i + 1) := (ok.does ha).more (by omega) (by omega) (by omega)
    have up2 := up.does (a := a) g9
    (conv => whnf); repeat (refine sideI ?_; conv => whnf)
    by_cases hE : v.doesE a = 0
    · rw [hE]
      (conv => whnf); repeat (refine sideI ?_; conv => whnf)
      refine ⟨⟨i + 1, v.does a, ok2, up2, by omega, by omega⟩, Ent.mkA [some 0], ?_⟩
      show 60 - (i + 1) < 60 - i
      omega
    · rw [decide_eq_true (show v.doesE a ≠ 0 from hE)]
      (conv => whnf); repeat (refine sideI ?_; conv => whnf)
      refine AFn.useA [0] (state_ok ok2 (by omega) (by omega)) fun _ => ?_
      (conv => whnf); repeat (refine sideI ?_; conv => whnf)
      have e1 := refused_stL ok up g9 hE
      have l1 := stL_len ok
      have l2 := stL_len ok2
      refine AFn.useA [] (equalS_ok (v.does a).stL v.stL (by omega) (by omega)) fun _ => ?_
      rw [decide_eq_true e1]
      (conv => whnf); repeat (refine sideI ?_; conv => whnf)
      refine ⟨⟨i + 1, v.does a, ok2, up2, by omega, by omega⟩, Ent.mkA [some 0], ?_⟩
      show 60 - (i + 1) < 60 - i
      omega
end Go.Proofs.YtpgdbeacmlojcaaGreat.Ax
