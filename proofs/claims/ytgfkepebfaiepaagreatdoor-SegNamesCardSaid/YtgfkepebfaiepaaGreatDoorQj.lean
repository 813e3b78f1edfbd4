/-
  File systems: steps.
-/
import Derived.Test.YtgfkepebfaiepaaGreatDoorQi
namespace Go.Proofs.YtgfkepebfaiepaaGreatDoor.Ax
open Go.RowKit
set_option maxRecDepth 100000
noncomputable def cfgN (N b : Nat) : Cfg := { P := Go.Proofs.Tryz.prog, T := tt, wr := false, N := N, pure := [], base := b, frz := fun _ => false }
theorem cfgNOk (N b : Nat) : (cfgN N b).Ok := ⟨ttOk, ttBytes, by kernel_rfl⟩
def VM.tick (v : VM) : VM := { v with steps := v.steps + 1, fuse := max (v.fuse - 1) (-1) }
def VM.stepE (v : VM) (e : VM → Int) : Int := if v.off = true then 20 else if v.fuse = 0 then 20 else e v.tick
def VM.stepV (v : VM) (d : VM → VM) : VM := if v.off = true then v else if v.fuse = 0 then { v with steps := v.steps + 1, off := true } else (d v.tick).clean
structure VM.Cl (v : VM) : Prop where
 fin : v.fd.In NOk
 ds : v.fd.ds.length ≤ 500
theorem clean_ok (s : SM) {v : VM} (hs : s.At v) (h : v.Cl) : AFn Go.Proofs.Tryz.prog 106 [.ptr 0 0] s.H (fun _ : Unit => .tup []) (fun _ => s.clean.H) := by
 have hv := hs.val
 subst hv
 exact clean_in s h.fin h.ds
section
variable (s : SM)
theorem step1 {v : VM} (hs : s.At v) (hst : 0 ≤ v.steps ∧ v.steps ≤ 1000000000) (hfu : -1 ≤ v.fuse ∧ v.fuse ≤ 9223372036854775807) {g : FuncId} {c1 : List AV} (hcap : ∀ σ : Nat → Nat, σ 0 = 0 → AV.rens σ [.pp c1] = [.pp c1]) (e : VM → Int) (d : VM → VM)
 (hd : v.off = false → v.fuse ≠ 0 → ∀ s1 : SM, s1.At v.tick → AFn Go.Proofs.Tryz.prog g [.pp c1] s1.H (fun _ : { s2 : SM // s2.At (d v.tick) } => AV.int .i64 (e v.tick)) (fun s2 => s2.1.H)) (hcl : v.off = false → v.fuse ≠ 0 → (d v.tick).Cl) :
 AFn Go.Proofs.Tryz.prog 186 [.ptr 0 0, .fnc (.func g) [] [.pp c1]] s.H (fun _ : { s' : SM // s'.At (v.stepV d) } => AV.int .i64 (v.stepE e)) (fun s' => s'.1.H) := by
 have hv := hs.val
 refine ACall.fin ?_
 refine ACall.walk (C := cfg 41 4) (cfgOk _ _) [] (fn := Go.Proofs.Tryz.f186) (by kernel_rfl) (by kernel_rfl) rfl (by kernel_rfl) (by kernel_rfl) rfl rfl ?_
 refine goA ?_
 refine AFn.useA [0, 1, 2, 3] (power_in s) fun _ => ?_
 refine goA ?_
 rcases Bool.eq_false_or_eq_true s.off with ho | ho
 ·have e1 : s.pow = 20 := by simp [SM.pow, ho]
  have hoff : v.off = true := by rw [← hv]; exact ho
  have e2 : v.stepE e = 20 := if_pos hoff
  have e3 : v.stepV d = v := if_pos hoff
  rw [e1, e2]
  refine goA ?_
  refine ⟨_, _, Ent.mk' (e' := [(0, AV.int .i64 20)]) (H' := s.H) [some 0, some 1, some 2, some 3] (by kernel_rfl) ⟨AVE.refl _, trivial⟩ (by repeat' (first | exact trivial | refine ⟨⟨_, rfl, ChE.refl _⟩, ?_⟩)), ⟨s, by rw [e3]; exact hs⟩, rfl, rfl⟩
 ·have e1 : s.pow = 0 := by simp [SM.pow, ho]
  have hoff : v.off = false := by rw [← hv]; exact ho
  have hst' : 0 ≤ s.steps ∧ s.steps ≤ 1000000000 := by rw [← hv] at hst; exact hst
  have hfu' : -1 ≤ s.fuse ∧ s.fuse ≤ 9223372036854775807 := by rw [← hv] at hfu; exact hfu
  rw [e1]
  refine goA ?_
  refine ifdA (fun h1 => ?_) (fun h1 => ?_) <;> (try dsimp only at h1)
  ·have hz : v.fuse = 0 := by rw [← hv]; exact h1
   have e2 : v.stepE e = 20 := by unfold VM.stepE; rw [if_neg (by rw [hoff]; decide), if_pos hz]
   have e3 : v.stepV d = { v with steps := v.steps + 1, off := true } := by unfold VM.stepV; rw [if_neg (by rw [hoff]; decide), if_pos hz]
   rw [e2]
   refine goA ?_
   refine ⟨_, _, Ent.mk' (e' := [(0, AV.int .i64 20)]) (H' := SM.H { s with steps := s.steps + 1, off := true }) [some 0, some 1, some 2, some 3] (by kernel_rfl) ⟨AVE.refl _, trivial⟩ (by repeat' (first | exact trivial | refine ⟨⟨_, rfl, ChE.refl _⟩, ?_⟩)), ⟨{ s with steps := s.steps + 1, off := true }, by rw [e3, ← hv]; exact ⟨rfl, hs.nd⟩⟩, rfl, rfl⟩
  ·have hz : v.fuse ≠ 0 := by rw [← hv]; exact h1
   have e2 : v.stepE e = e v.tick := by unfold VM.stepE; rw [if_neg (by rw [hoff]; decide), if_neg hz]
   have e3 : v.stepV d = (d v.tick).clean := by unfold VM.stepV; rw [if_neg (by rw [hoff]; decide), if_neg hz]
   refine goA ?_
   have ht : SM.At { s with steps := s.steps + 1, fuse := max (s.fuse - 1) (-1) } v.tick := by rw [← hv]; exact ⟨rfl, hs.nd⟩
   refine AFn.use [0, 1, 2, 3] (hd hoff hz { s with steps := s.steps + 1, fuse := max (s.fuse - 1) (-1) } ht) (by kernel_rfl) (hcap _ rfl).symm (by repeat' first | exact trivial | refine ⟨rfl, ?_⟩) fun s2 => ?_
   obtain ⟨s2, h2⟩ := s2
   refine goA ?_
   refine AFn.useA [0, 1, 2, 3] (clean_ok s2 h2 (hcl hoff hz)) fun _ => ?_
   refine goA ?_
   refine ⟨_, _, Ent.mk' (e' := [(0, AV.int .i64 (v.stepE e))]) (H' := s2.clean.H) [some 0, some 1, some 2, some 3] (by kernel_rfl) ⟨AVE.int e2.symm, trivial⟩ (by repeat' (first | exact trivial | refine ⟨⟨_, rfl, ChE.refl _⟩, ?_⟩)), ⟨s2.clean, by rw [e3]; exact clean_at h2⟩, rfl, rfl⟩
theorem step2 {v : VM} (hs : s.At v) (hst : 0 ≤ v.steps ∧ v.steps ≤ 1000000000) (hfu : -1 ≤ v.fuse ∧ v.fuse ≤ 9223372036854775807) {g : FuncId} {c1 c2 : List AV} (hcap : ∀ σ : Nat → Nat, σ 0 = 0 → AV.rens σ [.pp c1, .pp c2] = [.pp c1, .pp c2]) (e : VM → Int) (d : VM → VM)
 (hd : v.off = false → v.fuse ≠ 0 → ∀ s1 : SM, s1.At v.tick → AFn Go.Proofs.Tryz.prog g [.pp c1, .pp c2] s1.H (fun _ : { s2 : SM // s2.At (d v.tick) } => AV.int .i64 (e v.tick)) (fun s2 => s2.1.H)) (hcl : v.off = false → v.fuse ≠ 0 → (d v.tick).Cl) :
 AFn Go.Proofs.Tryz.prog 186 [.ptr 0 0, .fnc (.func g) [] [.pp c1, .pp c2]] s.H (fun _ : { s' : SM // s'.At (v.stepV d) } => AV.int .i64 (v.stepE e)) (fun s' => s'.1.H) := by
 have hv := hs.val
 refine ACall.fin ?_
 refine ACall.walk (C := cfg 41 4) (cfgOk _ _) [] (fn := Go.Proofs.Tryz.f186) (by kernel_rfl) (by kernel_rfl) rfl (by kernel_rfl) (by kernel_rfl) rfl rfl ?_
 refine goA ?_
 refine AFn.useA [0, 1, 2, 3] (power_in s) fun _ => ?_
 refine goA ?_
 rcases Bool.eq_false_or_eq_true s.off with ho | ho
 ·have e1 : s.pow = 20 := by simp [SM.pow, ho]
  have hoff : v.off = true := by rw [← hv]; exact ho
  have e2 : v.stepE e = 20 := if_pos hoff
  have e3 : v.stepV d = v := if_pos hoff
  rw [e1, e2]
  refine goA ?_
  refine ⟨_, _, Ent.mk' (e' := [(0, AV.int .i64 20)]) (H' := s.H) [some 0, some 1, some 2, some 3] (by kernel_rfl) ⟨AVE.refl _, trivial⟩ (by repeat' (first | exact trivial | refine ⟨⟨_, rfl, ChE.refl _⟩, ?_⟩)), ⟨s, by rw [e3]; exact hs⟩, rfl, rfl⟩
 ·have e1 : s.pow = 0 := by simp [SM.pow, ho]
  have hoff : v.off = false := by rw [← hv]; exact ho
  have hst' : 0 ≤ s.steps ∧ s.steps ≤ 1000000000 := by rw [← hv] at hst; exact hst
  have hfu' : -1 ≤ s.fuse ∧ s.fuse ≤ 9223372036854775807 := by rw [← hv] at hfu; exact hfu
  rw [e1]
  refine goA ?_
  refine ifdA (fun h1 => ?_) (fun h1 => ?_) <;> (try dsimp only at h1)
  ·have hz : v.fuse = 0 := by rw [← hv]; exact h1
   have e2 : v.stepE e = 20 := by unfold VM.stepE; rw [if_neg (by rw [hoff]; decide), if_pos hz]
   have e3 : v.stepV d = { v with steps := v.steps + 1, off := true } := by unfold VM.stepV; rw [if_neg (by rw [hoff]; decide), if_pos hz]
   rw [e2]
   refine goA ?_
   refine ⟨_, _, Ent.mk' (e' := [(0, AV.int .i64 20)]) (H' := SM.H { s with steps := s.steps + 1, off := true }) [some 0, some 1, some 2, some 3] (by kernel_rfl) ⟨AVE.refl _, trivial⟩ (by repeat' (first | exact trivial | refine ⟨⟨_, rfl, ChE.refl _⟩, ?_⟩)), ⟨{ s with steps := s.steps + 1, off := true }, by rw [e3, ← hv]; exact ⟨rfl, hs.nd⟩⟩, rfl, rfl⟩
  ·have hz : v.fuse ≠ 0 := by rw [← hv]; exact h1
   have e2 : v.stepE e = e v.tick := by unfold VM.stepE; rw [if_neg (by rw [hoff]; decide), if_neg hz]
   have e3 : v.stepV d = (d v.tick).clean := by unfold VM.stepV; rw [if_neg (by rw [hoff]; decide), if_neg hz]
   refine goA ?_
   have ht : SM.At { s with steps := s.steps + 1, fuse := max (s.fuse - 1) (-1) } v.tick := by rw [← hv]; exact ⟨rfl, hs.nd⟩
   refine AFn.use [0, 1, 2, 3] (hd hoff hz { s with steps := s.steps + 1, fuse := max (s.fuse - 1) (-1) } ht) (by kernel_rfl) (hcap _ rfl).symm (by repeat' first | exact trivial | refine ⟨rfl, ?_⟩) fun s2 => ?_
   obtain ⟨s2, h2⟩ := s2
   refine goA ?_
   refine AFn.useA [0, 1, 2, 3] (clean_ok s2 h2 (hcl hoff hz)) fun _ => ?_
   refine goA ?_
   refine ⟨_, _, Ent.mk' (e' := [(0, AV.int .i64 (v.stepE e))]) (H' := s2.clean.H) [some 0, some 1, some 2, some 3] (by kernel_rfl) ⟨AVE.int e2.symm, trivial⟩ (by repeat' (first | exact trivial | refine ⟨⟨_, rfl, ChE.refl _⟩, ?_⟩)), ⟨s2.clean, by rw [e3]; exact clean_at h2⟩, rfl, rfl⟩
theorem step3 {v : VM} (hs : s.At v) (hst : 0 ≤ v.steps ∧ v.steps ≤ 1000000000) (hfu : -1 ≤ v.fuse ∧ v.fuse ≤ 9223372036854775807) {g : FuncId} {c1 c2 c3 : List AV} (hcap : ∀ σ : Nat → Nat, σ 0 = 0 → AV.rens σ [.pp c1, .pp c2, .pp c3] = [.pp c1, .pp c2, .pp c3]) (e : VM → Int) (d : VM → VM)
 (hd : v.off = false → v.fuse ≠ 0 → ∀ s1 : SM, s1.At v.tick → AFn Go.Proofs.Tryz.prog g [.pp c1, .pp c2, .pp c3] s1.H (fun _ : { s2 : SM // s2.At (d v.tick) } => AV.int .i64 (e v.tick)) (fun s2 => s2.1.H)) (hcl : v.off = false → v.fuse ≠ 0 → (d v.tick).Cl) :
 AFn Go.Proofs.Tryz.prog 186 [.ptr 0 0, .fnc (.func g) [] [.pp c1, .pp c2, .pp c3]] s.H (fun _ : { s' : SM // s'.At (v.stepV d) } => AV.int .i64 (v.stepE e)) (fun s' => s'.1.H) := by
 have hv := hs.val
 refine ACall.fin ?_
 refine ACall.walk (C := cfg 41 4) (cfgOk _ _) [] (fn := Go.Proofs.Tryz.f186) (by kernel_rfl) (by kernel_rfl) rfl (by kernel_rfl) (by kernel_rfl) rfl rfl ?_
 refine goA ?_
 refine AFn.useA [0, 1, 2, 3] (power_in s) fun _ => ?_
 refine goA ?_
 rcases Bool.eq_false_or_eq_true s.off with ho | ho
 ·have e1 : s.pow = 20 := by simp [SM.pow, ho]
  have hoff : v.off = true := by rw [← hv]; exact ho
  have e2 : v.stepE e = 20 := if_pos hoff
  have e3 : v.stepV d = v := if_pos hoff
  rw [e1, e2]
  refine goA ?_
  refine ⟨_, _, Ent.mk' (e' := [(0, AV.int .i64 20)]) (H' := s.H) [some 0, some 1, some 2, some 3] (by kernel_rfl) ⟨AVE.refl _, trivial⟩ (by repeat' (first | exact trivial | refine ⟨⟨_, rfl, ChE.refl _⟩, ?_⟩)), ⟨s, by rw [e3]; exact hs⟩, rfl, rfl⟩
 ·have e1 : s.pow = 0 := by simp [SM.pow, ho]
  have hoff : v.off = false := by rw [← hv]; exact ho
  have hst' : 0 ≤ s.steps ∧ s.steps ≤ 1000000000 := by rw [← hv] at hst; exact hst
  have hfu' : -1 ≤ s.fuse ∧ s.fuse ≤ 9223372036854775807 := by rw [← hv] at hfu; exact hfu
  rw [e1]
  refine goA ?_
  refine ifdA (fun h1 => ?_) (fun h1 => ?_) <;> (try dsimp only at h1)
  ·have hz : v.fuse = 0 := by rw [← hv]; exact h1
   have e2 : v.stepE e = 20 := by unfold VM.stepE; rw [if_neg (by rw [hoff]; decide), if_pos hz]
   have e3 : v.stepV d = { v with steps := v.steps + 1, off := true } := by unfold VM.stepV; rw [if_neg (by rw [hoff]; decide), if_pos hz]
   rw [e2]
   refine goA ?_
   refine ⟨_, _, Ent.mk' (e' := [(0, AV.int .i64 20)]) (H' := SM.H { s with steps := s.steps + 1, off := true }) [some 0, some 1, some 2, some 3] (by kernel_rfl) ⟨AVE.refl _, trivial⟩ (by repeat' (first | exact trivial | refine ⟨⟨_, rfl, ChE.refl _⟩, ?_⟩)), ⟨{ s with steps := s.steps + 1, off := true }, by rw [e3, ← hv]; exact ⟨rfl, hs.nd⟩⟩, rfl, rfl⟩
  ·have hz : v.fuse ≠ 0 := by rw [← hv]; exact h1
   have e2 : v.stepE e = e v.tick := by unfold VM.stepE; rw [if_neg (by rw [hoff]; decide), if_neg hz]
   have e3 : v.stepV d = (d v.tick).clean := by unfold VM.stepV; rw [if_neg (by rw [hoff]; decide), if_neg hz]
   refine goA ?_
   have ht : SM.At { s with steps := s.steps + 1, fuse := max (s.fuse - 1) (-1) } v.tick := by rw [← hv]; exact ⟨rfl, hs.nd⟩
   refine AFn.use [0, 1, 2, 3] (hd hoff hz { s with steps := s.steps + 1, fuse := max (s.fuse - 1) (-1) } ht) (by kernel_rfl) (hcap _ rfl).symm (by repeat' first | exact trivial | refine ⟨rfl, ?_⟩) fun s2 => ?_
   obtain ⟨s2, h2⟩ := s2
   refine goA ?_
   refine AFn.useA [0, 1, 2, 3] (clean_ok s2 h2 (hcl hoff hz)) fun _ => ?_
   refine goA ?_
   refine ⟨_, _, Ent.mk' (e' := [(0, AV.int .i64 (v.stepE e))]) (H' := s2.clean.H) [some 0, some 1, some 2, some 3] (by kernel_rfl) ⟨AVE.int e2.symm, trivial⟩ (by repeat' (first | exact trivial | refine ⟨⟨_, rfl, ChE.refl _⟩, ?_⟩)), ⟨s2.clean, by rw [e3]; exact clean_at h2⟩, rfl, rfl⟩
end
def VM.findE (v : VM) (x : List UInt8) : Int := bif !mayB x then 1 else bif (afind v.fd.now x).isSome then 0 else 6
def VM.file (v : VM) (x : List UInt8) : FI := ((afind v.fd.now x).bind (ffind v.fs)).getD ⟨[], [], []⟩
def withE (x : List UInt8) (e : VM → FI → Int) (v : VM) : Int := if v.findE x = 0 then e v (v.file x) else v.findE x
def withV (x : List UInt8) (d : VM → FI → FI) (v : VM) : VM := if v.findE x = 0 then { v with fs := fset v.fs (v.fd.findN x) (d v (v.file x)) } else v
def VM.Led (v : VM) : Prop := ∀ x n, afind v.fd.now x = some n → ∃ f, ffind v.fs n = some f
theorem findE_zero {v : VM} {x : List UInt8} (h : v.findE x = 0) : mayB x = true ∧ ∃ n, afind v.fd.now x = some n := by
 obtain ⟨h1, h2⟩ := mayB_of h
 refine ⟨h1, ?_⟩
 cases hf : afind v.fd.now x with
 | none => rw [hf] at h2; simp at h2
 | some n => exact ⟨n, rfl⟩
theorem findE_yes {v : VM} {x : List UInt8} {n : Nat} (h1 : mayB x = true) (h2 : afind v.fd.now x = some n) : v.findE x = 0 := by simp [VM.findE, h1, h2]
section
variable (s : SM)
theorem withIn0 {v : VM} (hs : s.At v) (x : List UInt8) (hled : v.Led) {g : FuncId}  (hcap : ∀ σ : Nat → Nat, σ 0 = 0 → AV.rens σ [] = []) (e : VM → FI → Int) (d : VM → FI → FI)
 (hw : ∀ n f, afind v.fd.now x = some n → ffind v.fs n = some f → ∀ b, (s.fs.find? fun p => decide (p.1 = n)) = some (n, b, f) → AFn Go.Proofs.Tryz.prog g (ptrV b :: []) s.H (fun _ : { s2 : SM // s2.At { v with fs := fset v.fs n (d v f) } } => AV.int .i64 (e v f)) (fun s2 => s2.1.H)) :
 AFn Go.Proofs.Tryz.prog 187 [.pp [.ptr 0 0], .pp [.str x], .pp [.fnc (.func g) [] []]] s.H (fun _ : { s' : SM // s'.At (withV x d v) } => AV.int .i64 (withE x e v)) (fun s' => s'.1.H) := by
 have hv := hs.val
 have hE : v.findE x = (bif !mayB x then 1 else bif (afind s.fd.now x).isSome then 0 else 6) := by rw [← hv]; rfl
 refine ACall.fin ?_
 refine ACall.walk (C := cfg 18 4) (cfgOk _ _) [] (fn := Go.Proofs.Tryz.f187) (by kernel_rfl) (by kernel_rfl) rfl (by kernel_rfl) (by kernel_rfl) rfl rfl ?_
 refine goA ?_
 cases hm : mayB x with
 | false =>
   have e1 : v.findE x = 1 := by rw [hE, hm]; rfl
   have e2 : withE x e v = 1 := by unfold withE; rw [if_neg (by omega), e1]
   have e3 : withV x d v = v := if_neg (by omega)
   rw [e2]
   refine AFn.useA [0, 1, 2, 3] (find_bad s x hm) fun _ => ?_
   refine goA ?_
   refine ⟨_, _, Ent.mk' (e' := [(0, AV.int .i64 1)]) (H' := s.H) [some 0, some 1, some 2, some 3] (by kernel_rfl) ⟨AVE.refl _, trivial⟩ (by repeat' (first | exact trivial | refine ⟨⟨_, rfl, ChE.refl _⟩, ?_⟩)), ⟨s, by rw [e3]; exact hs⟩, rfl, rfl⟩
 | true =>
   cases hf : afind s.fd.now x with
   | none =>
     have e1 : v.findE x = 6 := by rw [hE, hm, hf]; rfl
     have e2 : withE x e v = 6 := by unfold withE; rw [if_neg (by omega), e1]
     have e3 : withV x d v = v := if_neg (by omega)
     rw [e2]
     refine AFn.useA [0, 1, 2, 3] (find_no s x hm hf) fun _ => ?_
     refine goA ?_
     refine ⟨_, _, Ent.mk' (e' := [(0, AV.int .i64 6)]) (H' := s.H) [some 0, some 1, some 2, some 3] (by kernel_rfl) ⟨AVE.refl _, trivial⟩ (by repeat' (first | exact trivial | refine ⟨⟨_, rfl, ChE.refl _⟩, ?_⟩)), ⟨s, by rw [e3]; exact hs⟩, rfl, rfl⟩
   | some n =>
     have e1 : v.findE x = 0 := by rw [hE, hm, hf]; rfl
     have hf' : afind v.fd.now x = some n := by rw [← hv]; exact hf
     obtain ⟨f, h1⟩ := hled x n hf'
     obtain ⟨b, h2⟩ := at_find hs h1
     have ef : v.file x = f := by unfold VM.file; rw [hf']; simp [h1]
     have en : v.fd.findN x = n := by unfold FD.findN; rw [hf']; rfl
     have e2 : withE x e v = e v f := by unfold withE; rw [if_pos e1, ef]
     have e3 : withV x d v = { v with fs := fset v.fs n (d v f) } := by unfold withV; rw [if_pos e1, ef, en]
     rw [e2]
     refine AFn.useA [0, 1, 2, 3] (find_yes s x n b f hm hf h2) fun _ => ?_
     refine goA ?_
     refine AFn.use [0, 1, 2, 3] (hw n f hf' h1 b h2) (by kernel_rfl) (by show _ = AV.ren _ (ptrV b) :: AV.rens _ []; rw [hcap _ rfl]; rfl) (by repeat' first | exact trivial | refine ⟨rfl, ?_⟩) fun s2 => ?_
     obtain ⟨s2, h3⟩ := s2
     refine goA ?_
     refine ⟨_, _, Ent.mk' (e' := [(0, AV.int .i64 (e v f))]) (H' := s2.H) [some 0, some 1, some 2, some 3] (by kernel_rfl) ⟨AVE.refl _, trivial⟩ (by repeat' (first | exact trivial | refine ⟨⟨_, rfl, ChE.refl _⟩, ?_⟩)), ⟨s2, by rw [e3]; exact h3⟩, rfl, rfl⟩
theorem with0 {v : VM} (hs : s.At v) (hst : 0 ≤ v.steps ∧ v.steps ≤ 1000000000) (hfu : -1 ≤ v.fuse ∧ v.fuse ≤ 9223372036854775807) (x : List UInt8) (hled : v.Led) {g : FuncId}  (hcap : ∀ σ : Nat → Nat, σ 0 = 0 → AV.rens σ [] = []) (e : VM → FI → Int) (d : VM → FI → FI)
 (hw : v.off = false → v.fuse ≠ 0 → ∀ s1 : SM, s1.At v.tick → ∀ n f, afind v.fd.now x = some n → ffind v.fs n = some f → ∀ b, (s1.fs.find? fun p => decide (p.1 = n)) = some (n, b, f) → AFn Go.Proofs.Tryz.prog g (ptrV b :: []) s1.H (fun _ : { s2 : SM // s2.At { v.tick with fs := fset v.fs n (d v.tick f) } } => AV.int .i64 (e v.tick f)) (fun s2 => s2.1.H))
 (hcl : v.off = false → v.fuse ≠ 0 → (withV x d v.tick).Cl) :
 AFn Go.Proofs.Tryz.prog 125 [.ptr 0 0, .str x, .fnc (.func g) [] []] s.H (fun _ : { s' : SM // s'.At (v.stepV (withV x d)) } => AV.int .i64 (v.stepE (withE x e))) (fun s' => s'.1.H) := by
 refine ACall.fin ?_
 refine ACall.walk (C := cfgN 10 4) (cfgNOk _ _) [] (fn := Go.Proofs.Tryz.f125) (by kernel_rfl) (by kernel_rfl) rfl (by kernel_rfl) (by kernel_rfl) rfl rfl ?_
 refine goA ?_
 refine ACall.boxF 4 rfl rfl [.ptr 0 0, .fnc (.func 187) [] [.pp [.ptr 0 0], .ptr 5 0, .ptr 6 0]] ⟨.same .., .fnc ⟨.here .., .same .., .same .., rfl⟩, rfl⟩ ?_
 refine ACall.boxF 5 rfl rfl [.ptr 0 0, .fnc (.func 187) [] [.pp [.ptr 0 0], .pp [.str x], .ptr 6 0]] ⟨.same .., .fnc ⟨.same .., .here .., .same .., rfl⟩, rfl⟩ ?_
 refine ACall.boxF 6 rfl rfl [.ptr 0 0, .fnc (.func 187) [] [.pp [.ptr 0 0], .pp [.str x], .pp [.fnc (.func g) [] []]]] ⟨.same .., .fnc ⟨.same .., .same .., .here .., rfl⟩, rfl⟩ ?_
 have hc3 : ∀ σ : Nat → Nat, σ 0 = 0 → AV.rens σ [.pp [.ptr 0 0], .pp [.str x], .pp [.fnc (.func g) [] []]] = [.pp [.ptr 0 0], .pp [.str x], .pp [.fnc (.func g) [] []]] := fun σ h0 => by
  have h1 := hcap σ h0
  have h2 : AV.rens σ [.pp [.ptr 0 0], .pp [.str x], .pp [.fnc (.func g) [] []]] = [.pp [.ptr (σ 0) 0], .pp [.str x], .pp [.fnc (.func g) [] (AV.rens σ [])]] := rfl
  rw [h2, h1, h0]
 refine AFn.use [0, 1, 2, 3] (step3 s hs hst hfu hc3 (withE x e) (withV x d) (fun ho hz s1 h1 => withIn0 s1 h1 x hled hcap e d fun n f h2 h3 => hw ho hz s1 h1 n f h2 h3) hcl) (by kernel_rfl) (by show _ = AV.ren _ (.ptr 0 0) :: [AV.ren _ (.fnc (.func 187) [] _)]; exact congrArg (fun l => [AV.ptr 0 0, AV.fnc (.func 187) [] l]) (hc3 _ rfl).symm) (by repeat' first | exact trivial | refine ⟨rfl, ?_⟩) fun s2 => ?_
 obtain ⟨s2, h3⟩ := s2
 refine goA ?_
 refine ⟨_, _, Ent.mk' (e' := [(0, AV.int .i64 (v.stepE (withE x e)))]) (H' := s2.H) [some 0, some 1, some 2, some 3] (by kernel_rfl) ⟨AVE.refl _, trivial⟩ (by repeat' (first | exact trivial | refine ⟨⟨_, rfl, ChE.refl _⟩, ?_⟩)), ⟨s2, h3⟩, rfl, rfl⟩
theorem withIn2 {v : VM} (hs : s.At v) (x : List UInt8) (hled : v.Led) {g : FuncId} {c1 c2 : List AV} (hcap : ∀ σ : Nat → Nat, σ 0 = 0 → AV.rens σ [.pp c1, .pp c2] = [.pp c1, .pp c2]) (e : VM → FI → Int) (d : VM → FI → FI)
 (hw : ∀ n f, afind v.fd.now x = some n → ffind v.fs n = some f → ∀ b, (s.fs.find? fun p => decide (p.1 = n)) = some (n, b, f) → AFn Go.Proofs.Tryz.prog g (ptrV b :: [.pp c1, .pp c2]) s.H (fun _ : { s2 : SM // s2.At { v with fs := fset v.fs n (d v f) } } => AV.int .i64 (e v f)) (fun s2 => s2.1.H)) :
 AFn Go.Proofs.Tryz.prog 187 [.pp [.ptr 0 0], .pp [.str x], .pp [.fnc (.func g) [] [.pp c1, .pp c2]]] s.H (fun _ : { s' : SM // s'.At (withV x d v) } => AV.int .i64 (withE x e v)) (fun s' => s'.1.H) := by
 have hv := hs.val
 have hE : v.findE x = (bif !mayB x then 1 else bif (afind s.fd.now x).isSome then 0 else 6) := by rw [← hv]; rfl
 refine ACall.fin ?_
 refine ACall.walk (C := cfg 18 4) (cfgOk _ _) [] (fn := Go.Proofs.Tryz.f187) (by kernel_rfl) (by kernel_rfl) rfl (by kernel_rfl) (by kernel_rfl) rfl rfl ?_
 refine goA ?_
 cases hm : mayB x with
 | false =>
   have e1 : v.findE x = 1 := by rw [hE, hm]; rfl
   have e2 : withE x e v = 1 := by unfold withE; rw [if_neg (by omega), e1]
   have e3 : withV x d v = v := if_neg (by omega)
   rw [e2]
   refine AFn.useA [0, 1, 2, 3] (find_bad s x hm) fun _ => ?_
   refine goA ?_
   refine ⟨_, _, Ent.mk' (e' := [(0, AV.int .i64 1)]) (H' := s.H) [some 0, some 1, some 2, some 3] (by kernel_rfl) ⟨AVE.refl _, trivial⟩ (by repeat' (first | exact trivial | refine ⟨⟨_, rfl, ChE.refl _⟩, ?_⟩)), ⟨s, by rw [e3]; exact hs⟩, rfl, rfl⟩
 | true =>
   cases hf : afind s.fd.now x with
   | none =>
     have e1 : v.findE x = 6 := by rw [hE, hm, hf]; rfl
     have e2 : withE x e v = 6 := by unfold withE; rw [if_neg (by omega), e1]
     have e3 : withV x d v = v := if_neg (by omega)
     rw [e2]
     refine AFn.useA [0, 1, 2, 3] (find_no s x hm hf) fun _ => ?_
     refine goA ?_
     refine ⟨_, _, Ent.mk' (e' := [(0, AV.int .i64 6)]) (H' := s.H) [some 0, some 1, some 2, some 3] (by kernel_rfl) ⟨AVE.refl _, trivial⟩ (by repeat' (first | exact trivial | refine ⟨⟨_, rfl, ChE.refl _⟩, ?_⟩)), ⟨s, by rw [e3]; exact hs⟩, rfl, rfl⟩
   | some n =>
     have e1 : v.findE x = 0 := by rw [hE, hm, hf]; rfl
     have hf' : afind v.fd.now x = some n := by rw [← hv]; exact hf
     obtain ⟨f, h1⟩ := hled x n hf'
     obtain ⟨b, h2⟩ := at_find hs h1
     have ef : v.file x = f := by unfold VM.file; rw [hf']; simp [h1]
     have en : v.fd.findN x = n := by unfold FD.findN; rw [hf']; rfl
     have e2 : withE x e v = e v f := by unfold withE; rw [if_pos e1, ef]
     have e3 : withV x d v = { v with fs := fset v.fs n (d v f) } := by unfold withV; rw [if_pos e1, ef, en]
     rw [e2]
     refine AFn.useA [0, 1, 2, 3] (find_yes s x n b f hm hf h2) fun _ => ?_
     refine goA ?_
     refine AFn.use [0, 1, 2, 3] (hw n f hf' h1 b h2) (by kernel_rfl) (by show _ = AV.ren _ (ptrV b) :: AV.rens _ [.pp c1, .pp c2]; rw [hcap _ rfl]; rfl) (by repeat' first | exact trivial | refine ⟨rfl, ?_⟩) fun s2 => ?_
     obtain ⟨s2, h3⟩ := s2
     refine goA ?_
     refine ⟨_, _, Ent.mk' (e' := [(0, AV.int .i64 (e v f))]) (H' := s2.H) [some 0, some 1, some 2, some 3] (by kernel_rfl) ⟨AVE.refl _, trivial⟩ (by repeat' (first | exact trivial | refine ⟨⟨_, rfl, ChE.refl _⟩, ?_⟩)), ⟨s2, by rw [e3]; exact h3⟩, rfl, rfl⟩
theorem with2 {v : VM} (hs : s.At v) (hst : 0 ≤ v.steps ∧ v.steps ≤ 1000000000) (hfu : -1 ≤ v.fuse ∧ v.fuse ≤ 9223372036854775807) (x : List UInt8) (hled : v.Led) {g : FuncId} {c1 c2 : List AV} (hcap : ∀ σ : Nat → Nat, σ 0 = 0 → AV.rens σ [.pp c1, .pp c2] = [.pp c1, .pp c2]) (e : VM → FI → Int) (d : VM → FI → FI)
 (hw : v.off = false → v.fuse ≠ 0 → ∀ s1 : SM, s1.At v.tick → ∀ n f, afind v.fd.now x = some n → ffind v.fs n = some f → ∀ b, (s1.fs.find? fun p => decide (p.1 = n)) = some (n, b, f) → AFn Go.Proofs.Tryz.prog g (ptrV b :: [.pp c1, .pp c2]) s1.H (fun _ : { s2 : SM // s2.At { v.tick with fs := fset v.fs n (d v.tick f) } } => AV.int .i64 (e v.tick f)) (fun s2 => s2.1.H))
 (hcl : v.off = false → v.fuse ≠ 0 → (withV x d v.tick).Cl) :
 AFn Go.Proofs.Tryz.prog 125 [.ptr 0 0, .str x, .fnc (.func g) [] [.pp c1, .pp c2]] s.H (fun _ : { s' : SM // s'.At (v.stepV (withV x d)) } => AV.int .i64 (v.stepE (withE x e))) (fun s' => s'.1.H) := by
 refine ACall.fin ?_
 refine ACall.walk (C := cfgN 10 4) (cfgNOk _ _) [] (fn := Go.Proofs.Tryz.f125) (by kernel_rfl) (by kernel_rfl) rfl (by kernel_rfl) (by kernel_rfl) rfl rfl ?_
 refine goA ?_
 refine ACall.boxF 4 rfl rfl [.ptr 0 0, .fnc (.func 187) [] [.pp [.ptr 0 0], .ptr 5 0, .ptr 6 0]] ⟨.same .., .fnc ⟨.here .., .same .., .same .., rfl⟩, rfl⟩ ?_
 refine ACall.boxF 5 rfl rfl [.ptr 0 0, .fnc (.func 187) [] [.pp [.ptr 0 0], .pp [.str x], .ptr 6 0]] ⟨.same .., .fnc ⟨.same .., .here .., .same .., rfl⟩, rfl⟩ ?_
 refine ACall.boxF 6 rfl rfl [.ptr 0 0, .fnc (.func 187) [] [.pp [.ptr 0 0], .pp [.str x], .pp [.fnc (.func g) [] [.pp c1, .pp c2]]]] ⟨.same .., .fnc ⟨.same .., .same .., .here .., rfl⟩, rfl⟩ ?_
 have hc3 : ∀ σ : Nat → Nat, σ 0 = 0 → AV.rens σ [.pp [.ptr 0 0], .pp [.str x], .pp [.fnc (.func g) [] [.pp c1, .pp c2]]] = [.pp [.ptr 0 0], .pp [.str x], .pp [.fnc (.func g) [] [.pp c1, .pp c2]]] := fun σ h0 => by
  have h1 := hcap σ h0
  have h2 : AV.rens σ [.pp [.ptr 0 0], .pp [.str x], .pp [.fnc (.func g) [] [.pp c1, .pp c2]]] = [.pp [.ptr (σ 0) 0], .pp [.str x], .pp [.fnc (.func g) [] (AV.rens σ [.pp c1, .pp c2])]] := rfl
  rw [h2, h1, h0]
 refine AFn.use [0, 1, 2, 3] (step3 s hs hst hfu hc3 (withE x e) (withV x d) (fun ho hz s1 h1 => withIn2 s1 h1 x hled hcap e d fun n f h2 h3 => hw ho hz s1 h1 n f h2 h3) hcl) (by kernel_rfl) (by show _ = AV.ren _ (.ptr 0 0) :: [AV.ren _ (.fnc (.func 187) [] _)]; exact congrArg (fun l => [AV.ptr 0 0, AV.fnc (.func 187) [] l]) (hc3 _ rfl).symm) (by repeat' first | exact trivial | refine ⟨rfl, ?_⟩) fun s2 => ?_
 obtain ⟨s2, h3⟩ := s2
 refine goA ?_
 refine ⟨_, _, Ent.mk' (e' := [(0, AV.int .i64 (v.stepE (withE x e)))]) (H' := s2.H) [some 0, some 1, some 2, some 3] (by kernel_rfl) ⟨AVE.refl _, trivial⟩ (by repeat' (first | exact trivial | refine ⟨⟨_, rfl, ChE.refl _⟩, ?_⟩)), ⟨s2, h3⟩, rfl, rfl⟩
end
end Go.Proofs.YtgfkepebfaiepaaGreatDoor.Ax

namespace Go.Proofs.YtgfkepebfaiepaaGreatDoor.Ax
open Go.RowKit
set_option maxRecDepth 100000
theorem full_len : ∀ (l : List Dd) (s : List UInt8), (full s l).length ≤ s.length + fl l
 | [], s => by simp [full, fl]
 | d :: l, s => by
   have h1 := full_len l (d.does s d.units)
   have h2 := does_len d s d.units
   have e1 : full s (d :: l) = full (d.does s d.units) l := rfl
   have e2 : fl (d :: l) = d.units + fl l := by simp [fl]
   rw [e1, e2]
   omega
theorem full_snoc (s : List UInt8) (l : List Dd) (d : Dd) : full s (l ++ [d]) = d.does (full s l) d.units := by simp [full]
theorem fl_snoc (l : List Dd) (d : Dd) : fl (l ++ [d]) = fl l + d.units := by simp [fl]
structure FI.Ok (n B : Nat) (f : FI) : Prop where
 eq : f.now = full f.safe f.ds
 vd : f.Vd
 ds : f.ds.length ≤ n
 sz : f.safe.length + fl f.ds ≤ B
theorem FI.Ok.len {n B : Nat} {f : FI} (h : f.Ok n B) : f.now.length ≤ B := by
 have := full_len f.ds f.safe
 rw [h.eq]
 exact Nat.le_trans this h.sz
theorem FI.Ok.more {n B n' B' : Nat} {f : FI} (h : f.Ok n B) (h1 : n ≤ n') (h2 : B ≤ B') : f.Ok n' B' := ⟨h.eq, h.vd, Nat.le_trans h.ds h1, Nat.le_trans h.sz h2⟩
theorem FI.Ok.rest {b : List UInt8} (n B : Nat) (h : b.length ≤ B) : FI.Ok n B ⟨b, b, []⟩ := ⟨rfl, fun i c hi => absurd hi (Nat.not_lt_zero _), Nat.zero_le _, by simpa [fl] using h⟩
theorem FI.Ok.did {n B : Nat} {f : FI} (h : f.Ok n B) (d : Dd) (hc : ∀ c, d = .cut c → c ≤ f.now.length) : (f.did d).Ok (n + 1) (B + d.units) := by
 refine ⟨?_, fun i c hi he => ?_, ?_, ?_⟩
 ·show d.does f.now d.units = full f.safe (f.ds ++ [d])
  rw [full_snoc, h.eq]
 ·have hi : i < (f.ds ++ [d]).length := hi
  have he : (f.ds ++ [d]).getD i (.cut 0) = .cut c := he
  show c ≤ (full f.safe ((f.ds ++ [d]).take i)).length
  by_cases hl : i < f.ds.length
  ·rw [List.take_append_of_le_length (by omega)]
   refine h.vd i c hl ?_
   rw [← he]
   simp [List.getD, List.getElem?_append_left hl]
  ·have e : i = f.ds.length := by simp at hi; omega
   subst e
   rw [List.take_left, ← h.eq]
   refine hc c ?_
   simpa [List.getD] using he
 ·show (f.ds ++ [d]).length ≤ n + 1
  have := h.ds
  simp
  exact this
 ·show f.safe.length + fl (f.ds ++ [d]) ≤ B + d.units
  have := h.sz
  rw [fl_snoc]
  omega
theorem FI.Ok.app {n B : Nat} {f : FI} (h : f.Ok n B) (c : List UInt8) : (f.app c).Ok (n + 1) (B + c.length) := by
 unfold FI.app
 split
 ·exact h.more (Nat.le_succ _) (Nat.le_add_right _ _)
 ·exact h.did (.add c) fun _ h => by cases h
theorem FI.Ok.cut {n B : Nat} {f : FI} (h : f.Ok n B) (m : Int) : (f.cut m).Ok (n + 1) (B + 1) := by
 unfold FI.cut
 split
 ·rename_i hm
  exact h.did (.cut m.toNat) fun c hc => by injection hc with hc; omega
 ·exact h.more (Nat.le_succ _) (Nat.le_add_right _ _)
theorem FI.Ok.crash {n B : Nat} {f : FI} (h : f.Ok n B) (K : Nat) : (f.crash K).Ok n B := by
 refine FI.Ok.rest n B ?_
 have h1 := cr_len K f.ds (0, f.safe)
 have h2 := h.sz
 simp only at h1
 exact Nat.le_trans h1 h2
theorem ffind_mem {l : List (Nat × FI)} {n : Nat} {f : FI} (h : ffind l n = some f) : (n, f) ∈ l := by
 unfold ffind at h
 obtain ⟨p, hp, rfl⟩ := Option.map_eq_some_iff.1 h
 have h1 := List.mem_of_find?_eq_some hp
 have h2 := List.find?_some hp
 simp only [decide_eq_true_eq] at h2
 rw [← h2]
 exact h1
theorem ffind_fset (l : List (Nat × FI)) (n m : Nat) (f : FI) : ffind (fset l n f) m = if m = n ∧ (ffind l n).isSome = true then some f else ffind l m := by
 unfold ffind fset
 rw [List.find?_map]
 have e : (fun p : Nat × FI => decide (p.1 = m)) ∘ (fun p : Nat × FI => if p.1 = n then (n, f) else p) = fun p => decide (p.1 = m) := by
  funext p
  simp only [Function.comp]
  split
  ·rename_i h; rw [h]
  ·rfl
 rw [e]
 cases hf : l.find? (fun p => decide (p.1 = m)) with
 | none =>
   simp only [Option.map_none]
   by_cases hm : m = n
   ·subst hm; rw [hf]; simp
   ·simp [hm]
 | some p =>
   have h2 := List.find?_some hf
   simp only [decide_eq_true_eq] at h2
   by_cases hm : m = n
   ·subst hm
    rw [hf]
    simp [h2]
   ·have : ¬ p.1 = n := fun e => hm (h2.symm.trans e)
    simp [hm, this]
theorem fset_keys (l : List (Nat × FI)) (n : Nat) (f : FI) : (fset l n f).map (·.1) = l.map (·.1) := by
 unfold fset
 rw [List.map_map]
 refine List.map_congr_left fun p _ => ?_
 simp only [Function.comp]
 split
 ·rename_i h; exact h.symm
 ·rfl
theorem fset_self {l : List (Nat × FI)} (hn : (l.map (·.1)).Nodup) {n : Nat} {f : FI} (h : ffind l n = some f) : fset l n f = l := by
 unfold fset
 conv => rhs; rw [← List.map_id l]
 refine List.map_congr_left fun p hp => ?_
 split
 ·rename_i hb
  rw [inj_of hn hp (ffind_mem h) hb]; rfl
 ·rfl
theorem ffind_fset_isSome (l : List (Nat × FI)) (n m : Nat) (f : FI) : (ffind (fset l n f) m).isSome = (ffind l m).isSome := by
 rw [ffind_fset]
 split
 ·rename_i h
  rw [h.1, h.2]
  rfl
 ·rfl
theorem mem_fset {l : List (Nat × FI)} {n : Nat} {f : FI} {p : Nat × FI} (h : p ∈ fset l n f) : p ∈ l ∨ p = (n, f) := by
 unfold fset at h
 obtain ⟨q, hq, rfl⟩ := List.mem_map.1 h
 split
 ·exact .inr rfl
 ·exact .inl hq
theorem ffind_filter {l : List (Nat × FI)} (q : Nat → Bool) (n : Nat) : ffind (l.filter fun p => q p.1) n = if q n = true then ffind l n else none := by
 unfold ffind
 rw [List.find?_filter]
 split
 ·rename_i h
  congr 2
  funext p
  by_cases e : p.1 = n
  ·subst e; simp [h]
  ·simp [e]
 ·rename_i h
  rw [List.find?_eq_none.2, Option.map_none]
  intro p _
  by_cases e : p.1 = n
  ·subst e; simp [h]
  ·simp [e]
theorem ffind_append (l : List (Nat × FI)) (n m : Nat) (f : FI) : ffind (l ++ [(n, f)]) m = (ffind l m).or (if n = m then some f else none) := by
 unfold ffind
 rw [List.find?_append]
 cases l.find? (fun p => decide (p.1 = m)) with
 | some p => simp
 | none =>
   by_cases e : n = m
   ·simp [e]
   ·simp [e]
structure VM.Ok (n B k : Nat) (v : VM) : Prop where
 fd : v.fd.In fun m => IOk v.fd.last n m ∧ ∀ p ∈ m, (ffind v.fs p.2).isSome = true
 ds : v.fd.ds.length ≤ n
 last : v.fd.last ≤ n
 nd : (v.fs.map (·.1)).Nodup
 le : ∀ p ∈ v.fs, p.1 ≤ v.fd.last
 files : ∀ p ∈ v.fs, p.2.Ok n B
 steps : 0 ≤ v.steps ∧ v.steps ≤ k
 fuse : -1 ≤ v.fuse ∧ v.fuse ≤ 9223372036854775807
 quota : 0 ≤ v.quota ∧ v.quota ≤ 1073741824
section
variable {n B k : Nat} {v : VM} (h : v.Ok n B k)
include h
theorem VM.Ok.more {n' B' k' : Nat} (h1 : n ≤ n') (h2 : B ≤ B') (h3 : k ≤ k') : v.Ok n' B' k' :=
 ⟨h.fd.mono fun m hm => ⟨hm.1.more (Nat.le_refl _) h1, hm.2⟩, Nat.le_trans h.ds h1, Nat.le_trans h.last h1, h.nd, h.le, fun p hp => (h.files p hp).more h1 h2, ⟨h.steps.1, by have := h.steps.2; omega⟩, h.fuse, h.quota⟩
theorem VM.Ok.nok (hn : n ≤ 1000) : v.fd.In NOk := h.fd.mono fun _ hm => hm.1.nok hn
theorem VM.Ok.cl (hn : n ≤ 500) : v.Cl := ⟨h.nok (by omega), Nat.le_trans h.ds hn⟩
theorem VM.Ok.led : v.Led := fun _ _ hx => Option.isSome_iff_exists.1 (h.fd.now.2 _ (afind_mem hx))
theorem VM.Ok.alive : ∀ x ∈ v.fd.live, (ffind v.fs x).isSome = true := fun x hx => by
 obtain ⟨j, hj, hx⟩ := live_mem.1 hx
 obtain ⟨p, hp, rfl⟩ := List.mem_map.1 hx
 exact (h.fd.all j hj).2 p hp
theorem VM.Ok.file {x : Nat} {f : FI} (hf : ffind v.fs x = some f) : f.Ok n B := h.files _ (ffind_mem hf)
theorem VM.Ok.tick : v.tick.Ok n B (k + 1) := by
 have h1 := h.steps
 have h2 := h.fuse
 refine ⟨h.fd, h.ds, h.last, h.nd, h.le, h.files, ?_, ?_, h.quota⟩
 ·show 0 ≤ v.steps + 1 ∧ v.steps + 1 ≤ ((k + 1 : Nat) : Int)
  omega
 ·show -1 ≤ max (v.fuse - 1) (-1) ∧ max (v.fuse - 1) (-1) ≤ 9223372036854775807
  omega
theorem VM.Ok.clean : v.clean.Ok n B k := by
 refine ⟨⟨h.fd.eq, fun j hj => ⟨(h.fd.all j hj).1, fun p hp => ?_⟩⟩, h.ds, h.last, ?_, fun p hp => h.le p (List.mem_filter.1 hp).1, fun p hp => h.files p (List.mem_filter.1 hp).1, h.steps, h.fuse, h.quota⟩
 ·have hl : p.2 ∈ v.fd.live := live_mem.2 ⟨j, hj, List.mem_map_of_mem hp⟩
  show (ffind (v.fs.filter fun p => decide (p.1 ∈ v.fd.live)) p.2).isSome = true
  rw [ffind_filter (fun x => decide (x ∈ v.fd.live)), if_pos (decide_eq_true hl)]
  exact (h.fd.all j hj).2 p hp
 ·exact (List.Sublist.map _ List.filter_sublist).nodup h.nd
theorem VM.Ok.fset {x : Nat} {f : FI} (hf : f.Ok n B) : VM.Ok n B k { v with fs := fset v.fs x f } := by
 refine ⟨⟨h.fd.eq, fun j hj => ⟨(h.fd.all j hj).1, fun p hp => ?_⟩⟩, h.ds, h.last, ?_, fun p hp => ?_, fun p hp => ?_, h.steps, h.fuse, h.quota⟩
 ·rw [ffind_fset_isSome]
  exact (h.fd.all j hj).2 p hp
 ·rw [fset_keys]
  exact h.nd
 ·have hk : p.1 ∈ v.fs.map (·.1) := by rw [← fset_keys v.fs x f]; exact List.mem_map_of_mem hp
  obtain ⟨q, hq, e⟩ := List.mem_map.1 hk
  rw [← e]
  exact h.le q hq
 ·rcases mem_fset hp with h1 | h1
  ·exact h.files p h1
  ·rw [h1]; exact hf
end
def VM.create1 (x : List UInt8) (v : VM) : VM := if v.fd.createE x = 0 then { v with fd := v.fd.create x, fs := v.fs ++ [(v.fd.last + 1, ⟨[], [], []⟩)] } else v
def VM.syncDir1 (v : VM) : VM := { v with fd := v.fd.synced }
section
variable {n B k : Nat} {v : VM} (h : v.Ok n B k)
include h
theorem VM.Ok.create1 (x : List UInt8) : (v.create1 x).Ok (n + 1) B k := by
 unfold VM.create1
 split
 ·rename_i h0
  obtain ⟨h1, h2⟩ := createE_zero h0
  have ef : v.fd.create x = FD.did ⟨v.fd.safe, v.fd.now, v.fd.ds, v.fd.last + 1⟩ (.mk x (v.fd.last + 1)) := if_pos h0
  have some1 : ∀ y, (ffind v.fs y).isSome = true → (ffind (v.fs ++ [(v.fd.last + 1, ⟨[], [], []⟩)]) y).isSome = true := fun y hy => by
   rw [ffind_append]
   obtain ⟨f, hf⟩ := Option.isSome_iff_exists.1 hy
   rw [hf]
   rfl
  refine ⟨?_, ?_, ?_, ?_, fun p hp => ?_, fun p hp => ?_, h.steps, h.fuse, h.quota⟩
  ·simp only
   rw [ef]
   refine h.fd.did2 (fun m hm => ⟨hm.1.more (Nat.le_succ _) (Nat.le_succ _), fun p hp => some1 _ (hm.2 p hp)⟩) (D := .mk x (v.fd.last + 1)) ⟨h.fd.now.1.put h1, fun p hp => ?_⟩ _
   rcases (mem_aput h.fd.now.1.nd).1 hp with h3 | h3
   ·exact some1 _ (h.fd.now.2 p h3.1)
   ·rw [h3, ffind_append]
    simp
  ·simp only
   rw [ef]
   have := h.ds
   simp [FD.did]
   exact this
  ·simp only
   rw [ef]
   have := h.last
   exact Nat.succ_le_succ this
  ·simp only [List.map_append, List.map_cons, List.map_nil]
   rw [List.nodup_append]
   refine ⟨h.nd, by simp, fun a ha b hb => ?_⟩
   simp at hb
   subst hb
   obtain ⟨q, hq, rfl⟩ := List.mem_map.1 ha
   have := h.le q hq
   omega
  ·simp only
   rw [ef]
   rcases List.mem_append.1 hp with hp | hp
   ·exact Nat.le_succ_of_le (h.le p hp)
   ·simp at hp
    rw [hp]
    exact Nat.le_refl _
  ·rcases List.mem_append.1 hp with hp | hp
   ·exact (h.files p hp).more (Nat.le_succ _) (Nat.le_refl _)
   ·simp at hp
    rw [hp]
    exact FI.Ok.rest _ _ (Nat.zero_le _)
 ·exact h.more (Nat.le_succ _) (Nat.le_refl _) (Nat.le_refl _)
theorem VM.Ok.fdOnly {fd' : FD} (h1 : fd'.In fun m => IOk fd'.last (n + 1) m ∧ ∀ p ∈ m, (ffind v.fs p.2).isSome = true) (h2 : fd'.ds.length ≤ n + 1) (h3 : fd'.last = v.fd.last) : VM.Ok (n + 1) B k { v with fd := fd' } :=
 ⟨h1, h2, by show fd'.last ≤ n + 1; rw [h3]; exact Nat.le_succ_of_le h.last, h.nd, fun p hp => by show p.1 ≤ fd'.last; rw [h3]; exact h.le p hp, fun p hp => (h.files p hp).more (Nat.le_succ _) (Nat.le_refl _), h.steps, h.fuse, h.quota⟩
theorem VM.Ok.syncDir1 : v.syncDir1.Ok (n + 1) B k :=
 h.fdOnly ((h.fd.mono fun _ hm => ⟨hm.1.more (Nat.le_refl _) (Nat.le_succ _), hm.2⟩).synced) (Nat.zero_le _) rfl
theorem VM.Ok.withV {n' B' : Nat} {x : List UInt8} {d : VM → FI → FI} (h1 : n ≤ n') (h2 : B ≤ B') (hd : ∀ f, f.Ok n B → (d v f).Ok n' B') : (withV x d v).Ok n' B' k := by
 unfold Ax.withV
 split
 ·rename_i h0
  obtain ⟨_, m, h4⟩ := findE_zero h0
  obtain ⟨f, hf⟩ := h.led x m h4
  have ef : v.file x = f := by unfold VM.file; rw [h4]; simp [hf]
  refine (h.more h1 h2 (Nat.le_refl _)).fset ?_
  rw [ef]
  exact hd f (h.file hf)
 ·exact h.more h1 h2 (Nat.le_refl _)
theorem VM.Ok.stepV {n' B' : Nat} {d : VM → VM} (h1 : n ≤ n') (h2 : B ≤ B') (hd : (d v.tick).Ok n' B' (k + 1)) : (v.stepV d).Ok n' B' (k + 1) := by
 unfold VM.stepV
 split
 ·exact h.more h1 h2 (Nat.le_succ _)
 ·split
  ·have h3 := h.more h1 h2 (Nat.le_refl _)
   have h4 := h.steps
   exact ⟨h3.fd, h3.ds, h3.last, h3.nd, h3.le, h3.files, by show 0 ≤ v.steps + 1 ∧ v.steps + 1 ≤ ((k + 1 : Nat) : Int); omega, h3.fuse, h3.quota⟩
  ·exact hd.clean
end
end Go.Proofs.YtgfkepebfaiepaaGreatDoor.Ax

namespace Go.Proofs.YtgfkepebfaiepaaGreatDoor.Ax
open Go.RowKit
set_option maxRecDepth 100000
theorem ChE.objsP {X : Type} {F : X → AH} {l l' : List (Nat × X)} (h : l.Perm l') : ChE (.sem (Objs F l)) (.sem (Objs F l')) := ⟨fun _ _ _ _ ⟨A, h1, h2, h3⟩ =>
 ⟨A, ((h.map _).nodup_iff).1 h1, fun p hp => h2 p (h.mem_iff.2 hp), fun p hp q hq => h3 p (h.mem_iff.2 hp) q (h.mem_iff.2 hq)⟩⟩
structure VM.Lim (v : VM) : Prop where
 ok : ∃ n B k, v.Ok n B k ∧ n ≤ 490 ∧ B ≤ 90000000
theorem mput_flM {l : List (Nat × Nat × FI)} {n b : Nat} {f : FI} (h : ∀ p ∈ l, p.1 ≠ n) : mput (flM l) (.i .u64 (n : Int)) (.v (.pointer (some ⟨b, 0, none⟩))) = flM (l ++ [(n, b, f)]) := by
 rw [mput_new]
 ·simp [flM, adI]
 ·intro p hp e
  obtain ⟨q, hq, rfl⟩ := List.mem_map.1 hp
  simp only at e
  injection e with _ e
  exact h q hq (by omega)
def schU36 : List (Nat × Sched) := [(1, .take 0 (.take 2 (.take 3 (.take 4 (.take 5 (.take 1 (.take 6 (.take 7 (.take 8 (.take 9 (.take 10 (.take 11 (.take 12 (.take 13 (.take 14 (.take 15 (.take 16 (.take 17 (.take 18 (.done))))))))))))))))))))]
noncomputable def cfgPu (N b : Nat) : Cfg := { P := Go.Proofs.Tryz.prog, T := tt, wr := false, N := N, pure := [22], base := b, frz := frzF }
theorem cfgPuOk (N b : Nat) : (cfgPu N b).Ok := ⟨ttOk, ttBytes, by kernel_rfl⟩
section
variable (s : SM) {v : VM} (hs : s.At v) (hok : v.Lim)
include hs hok
theorem createIn (x : List UInt8) : AFn Go.Proofs.Tryz.prog 205 [.pp [.ptr 0 0], .pp [.str x]] s.H (fun _ : { s' : SM // s'.At (v.create1 x) } => AV.int .i64 (v.fd.createE x)) (fun s' => s'.1.H) := by
 obtain ⟨n, B, k, ho, hn, hB⟩ := hok.ok
 have hv := hs.val
 subst hv
 have hl := ho.ds
 have hla := ho.last
 have hl : s.fd.ds.length ≤ 1000 := by have : s.fd.ds.length ≤ n := hl; omega
 have hla : s.fd.last ≤ 1000 := by have : s.fd.last ≤ n := hla; omega
 refine ACall.fin ?_
 refine ACall.walk (C := cfg 23 4) (cfgOk _ _) sch205 (fn := Go.Proofs.Tryz.f205) (by kernel_rfl) (by kernel_rfl) rfl (by kernel_rfl) (by kernel_rfl) rfl rfl ?_
 refine goA ?_
 repeat' (refine And.intro ?_ ?_ <;> (refine goA ?_))
 all_goals
  refine AFn.useA [1] (create_ok s.fd hl hla x) fun _ => ?_
  refine goA ?_
  refine ifdA (fun g => ?_) (fun g => ?_) <;> (try dsimp only at g)
  ·have e2 : s.val.create1 x = { s.val with fd := s.fd.create x, fs := s.val.fs ++ [(s.fd.last + 1, ⟨[], [], []⟩)] } := if_pos g
   have e3 : s.fd.createN x = s.fd.last + 1 := if_pos g
   have hne : ∀ p ∈ s.fs, p.1 ≠ s.fd.last + 1 := fun p hp e => by
    have := ho.le (p.1, p.2.2) (List.mem_map.2 ⟨p, hp, rfl⟩)
    have h3 : p.1 ≤ s.fd.last := this
    omega
   have e4 : s.fd.createE x = 0 := g
   rw [e3, e4]
   refine goA ?_
   repeat' (first | (refine And.intro ?_ ?_ <;> (refine goA ?_)) | (refine ACall.absorb fi_root ?_; refine AFn.useA [] (fnew_ok) fun _ => ?_; refine ⟨3, _, _, _, rfl, rfl, rfl, rfl, fun b hb => ?_⟩; (refine goA ?_)))
   all_goals
    rw [mput_flM (f := ⟨[], [], []⟩) hne]
    refine ⟨_, _, Ent.mk' (e' := [(0, AV.int .i64 0)]) (H' := SM.H { s with fd := s.fd.create x, fs := s.fs ++ [(s.fd.last + 1, b, ⟨[], [], []⟩)] }) [some 0, some 1, some 2, some 3] (by kernel_rfl) ⟨AVE.refl _, trivial⟩ ⟨⟨_, rfl, ChE.refl _⟩, ⟨_, rfl, ChE.refl _⟩, ⟨_, rfl, ChE.refl _⟩, ⟨_, rfl, ChE.objsP ?_⟩, trivial⟩, ⟨{ s with fd := s.fd.create x, fs := s.fs ++ [(s.fd.last + 1, b, ⟨[], [], []⟩)] }, ?_⟩, rfl, rfl⟩
    ·unfold flO
     rw [List.map_append]
     exact List.perm_append_comm (l₁ := [_])
    ·rw [e2]
     refine ⟨?_, ?_⟩
     ·simp only [SM.val, vfs, List.map_append, List.map_cons, List.map_nil]
     ·simp only [List.map_append, List.map_cons, List.map_nil]
      rw [List.nodup_append]
      refine ⟨hs.nd, by simp, fun a ha c hc => ?_⟩
      simp at hc
      subst hc
      intro e
      subst e
      refine hb ?_
      obtain ⟨p, hp, rfl⟩ := List.mem_map.1 ha
      exact List.mem_map.2 ⟨p.2, List.mem_map.2 ⟨p, hp, rfl⟩, rfl⟩
  ·have e2 : s.val.create1 x = s.val := if_neg g
   have e3 := create_no (f := s.fd) (x := x) g
   rw [e3.2]
   refine goA ?_
   refine ⟨_, _, Ent.mk' (e' := [(0, AV.int .i64 (s.fd.createE x))]) (H' := s.H) [some 0, some 1, some 2, some 3] (by kernel_rfl) ⟨AVE.refl _, trivial⟩ (by repeat' (first | exact trivial | refine ⟨⟨_, rfl, ChE.refl _⟩, ?_⟩)), ⟨s, by rw [e2]; exact hs⟩, rfl, rfl⟩
theorem syncDirIn : AFn Go.Proofs.Tryz.prog 208 [.pp [.ptr 0 0]] s.H (fun _ : { s' : SM // s'.At v.syncDir1 } => AV.int .i64 0) (fun s' => s'.1.H) := by
 have hv := hs.val
 subst hv
 refine ACall.fin ?_
 refine ACall.walk (C := cfg 7 4) (cfgOk _ _) [] (fn := Go.Proofs.Tryz.f208) (by kernel_rfl) (by kernel_rfl) rfl (by kernel_rfl) (by kernel_rfl) rfl rfl ?_
 refine goA ?_
 refine AFn.useA [1] (sync_ok s.fd) fun _ => ?_
 refine goA ?_
 refine ⟨_, _, Ent.mk' (e' := [(0, AV.int .i64 0)]) (H' := SM.H { s with fd := s.fd.synced }) [some 0, some 1, some 2, some 3] (by kernel_rfl) ⟨AVE.refl _, trivial⟩ (by repeat' (first | exact trivial | refine ⟨⟨_, rfl, ChE.refl _⟩, ?_⟩)), ⟨{ s with fd := s.fd.synced }, rfl, hs.nd⟩, rfl, rfl⟩
omit hok
theorem syncIn {n b : Nat} {f : FI} (hn : (v.fs.map (·.1)).Nodup) (hf : (s.fs.find? fun p => decide (p.1 = n)) = some (n, b, f)) (hb : f.now.length ≤ 140737488355328) : AFn Go.Proofs.Tryz.prog 180 [ptrV b] s.H (fun _ : { s' : SM // s'.At { v with fs := fset v.fs n ⟨f.now, f.now, []⟩ } } => AV.int .i64 0) (fun s' => s'.1.H) :=
 (sync_at s hf hb).say fun _ => ⟨⟨s.put b ⟨f.now, f.now, []⟩, file_put hs hn hf _⟩, AVE.refl _, rfl⟩
def VM.appE (c : List UInt8) (v : VM) (_ : FI) : Int := if v.quota < (v.used : Int) ∨ v.quota - (v.used : Int) < (c.length : Int) then 21 else 0
def VM.appD (c : List UInt8) (v : VM) (f : FI) : FI := if VM.appE c v f = 0 then f.app c else f
theorem appIn {n b : Nat} {f : FI} (ho : v.off = false) (hn : (v.fs.map (·.1)).Nodup) (hf : (s.fs.find? fun p => decide (p.1 = n)) = some (n, b, f)) (c : List UInt8) (hm : NOk v.fd.now) (hB : ∀ p ∈ v.fs, p.2.now.length ≤ 90000000) (hq : 0 ≤ v.quota ∧ v.quota ≤ 1073741824) (hc : c.length ≤ 10000000) (hl : f.ds.length ≤ 100000) :
 AFn Go.Proofs.Tryz.prog 184 [ptrV b, .pp [.ptr 0 0], .pp [.iv (.bs c)]] s.H (fun _ : { s' : SM // s'.At { v with fs := fset v.fs n (VM.appD c v f) } } => AV.int .i64 (VM.appE c v f)) (fun s' => s'.1.H) := by
 have hv := hs.val
 subst hv
 have hm : NOk s.fd.now := hm
 have hu := usedTo_le (v := s.val) hB (lsN s.fd.now).length
 have hll := lsN_length s.fd.now
 have hlen := hm.len
 rw [show s.val.usedTo (lsN s.fd.now).length = s.val.used from used_all s.val] at hu
 have hu : s.val.used ≤ 1000 * 90000000 := Nat.le_trans hu (Nat.mul_le_mul_right _ (by omega))
 have hq : 0 ≤ s.quota ∧ s.quota ≤ 1073741824 := hq
 have hB' : ∀ p ∈ s.val.fs, p.2.now.length ≤ 100000000 := fun p hp => by have := hB p hp; omega
 have hU : AFn Go.Proofs.Tryz.prog 22 [.ptr 0 0] s.H (fun _ : Unit => AV.int .i64 (s.val.used : Int)) (fun _ => s.H) := by
  have := used_in s hs.nd hm hB'
  rw [show s.off = false from ho] at this
  exact this
 have hfl : f.now.length ≤ 90000000 := hB (n, f) (List.mem_map.2 ⟨_, (find_of hf).1, rfl⟩)
 have hE : VM.appE c s.val f = if s.quota < (s.val.used : Int) ∨ s.quota - (s.val.used : Int) < (c.length : Int) then 21 else 0 := rfl
 generalize hus : s.val.used = U at hU hE hu
 refine ACall.fin ?_
 refine ACall.walk (C := cfgPu 27 4) (cfgPuOk _ _) schU36 (fn := Go.Proofs.Tryz.f184) (by kernel_rfl) (by kernel_rfl) rfl (by kernel_rfl) (by kernel_rfl) rfl rfl ?_
 refine goA ?_
 refine AFn.useA [0, 1, 2, 3] (hU) fun _ => ?_
 refine goA ?_
 have e0 : ∀ y, y = f → s.At { s.val with fs := fset s.val.fs n y } := fun y hy => by rw [hy, fset_self hn (by rw [show s.val.fs = vfs s.fs from rfl, ffind_vfs, hf]; rfl)]; exact hs
 by_cases h1 : (U : Int) > s.quota
 ·have e1 : VM.appE c s.val f = 21 := by rw [hE]; exact if_pos (.inl h1)
  have e2 : VM.appD c s.val f = f := if_neg (by rw [e1]; decide)
  rw [decide_eq_true h1, e1]
  refine goA ?_
  exact ⟨_, _, Ent.mk' (e' := [(0, AV.int .i64 21)]) (H' := s.H) [some 0, some 1, some 2, some 3] (by kernel_rfl) ⟨AVE.refl _, trivial⟩ (by repeat' (first | exact trivial | refine ⟨⟨_, rfl, ChE.refl _⟩, ?_⟩)), ⟨s, e0 _ e2⟩, rfl, rfl⟩
 ·rw [decide_eq_false h1]
  refine goA ?_
  refine AFn.useA [0, 1, 2, 3] (hU) fun _ => ?_
  refine goA ?_
  by_cases h2 : (c.length : Int) > s.quota - (U : Int)
  ·have e1 : VM.appE c s.val f = 21 := by rw [hE]; exact if_pos (.inr h2)
   have e2 : VM.appD c s.val f = f := if_neg (by rw [e1]; decide)
   rw [decide_eq_true h2, e1]
   refine goA ?_
   exact ⟨_, _, Ent.mk' (e' := [(0, AV.int .i64 21)]) (H' := s.H) [some 0, some 1, some 2, some 3] (by kernel_rfl) ⟨AVE.refl _, trivial⟩ (by repeat' (first | exact trivial | refine ⟨⟨_, rfl, ChE.refl _⟩, ?_⟩)), ⟨s, e0 _ e2⟩, rfl, rfl⟩
  ·have e1 : VM.appE c s.val f = 0 := by rw [hE]; exact if_neg (by omega)
   have e2 : VM.appD c s.val f = f.app c := if_pos e1
   rw [decide_eq_false h2, e1]
   refine goA ?_
   refine AFn.useA [0, 1, 2, 3] (app_at s hf c (by omega) hl) fun _ => ?_
   refine goA ?_
   exact ⟨_, _, Ent.mk' (e' := [(0, AV.int .i64 0)]) (H' := (s.put b (f.app c)).H) [some 0, some 1, some 2, some 3] (by kernel_rfl) ⟨AVE.refl _, trivial⟩ (by repeat' (first | exact trivial | refine ⟨⟨_, rfl, ChE.refl _⟩, ?_⟩)), ⟨s.put b (f.app c), by rw [e2]; exact file_put hs hn hf _⟩, rfl, rfl⟩
end
end Go.Proofs.YtgfkepebfaiepaaGreatDoor.Ax

namespace Go.Proofs.YtgfkepebfaiepaaGreatDoor.Ax
open Go.RowKit
set_option maxRecDepth 100000
def VM.createE (x : List UInt8) (v : VM) : Int := v.stepE fun v => v.fd.createE x
def VM.create (x : List UInt8) (v : VM) : VM := v.stepV (VM.create1 x)
def VM.syncDirE (v : VM) : Int := v.stepE fun _ => 0
def VM.syncDir (v : VM) : VM := v.stepV VM.syncDir1
def VM.appendE (x c : List UInt8) (v : VM) : Int := v.stepE (withE x (VM.appE c))
def VM.append (x c : List UInt8) (v : VM) : VM := v.stepV (withV x (VM.appD c))
def VM.syncE (x : List UInt8) (v : VM) : Int := v.stepE (withE x fun _ _ => 0)
def VM.sync (x : List UInt8) (v : VM) : VM := v.stepV (withV x fun _ f => ⟨f.now, f.now, []⟩)
theorem AVE.fncV (g : FuncId) : AVE (.iv (.v (.func (.func g) ⟨[]⟩ ⟨[]⟩))) (.fnc (.func g) [] []) := ⟨fun ρ ι v h => by
 simp only [AV.R, IV.R] at h ⊢
 exact ⟨[], [], h, by simp only [AV.Rs], by simp only [AV.Rs]⟩⟩
section
variable {n B k : Nat} {v : VM} (h : v.Ok n B k)
include h
theorem VM.Ok.create (x : List UInt8) : (v.create x).Ok (n + 1) B (k + 1) := h.stepV (Nat.le_succ _) (Nat.le_refl _) (h.tick.create1 x)
theorem VM.Ok.syncDir : v.syncDir.Ok (n + 1) B (k + 1) := h.stepV (Nat.le_succ _) (Nat.le_refl _) h.tick.syncDir1
theorem VM.Ok.append1 (x c : List UInt8) : (Ax.withV x (VM.appD c) v).Ok (n + 1) (B + c.length) k := h.withV (Nat.le_succ _) (Nat.le_add_right _ _) fun f hf => by
 unfold VM.appD
 split
 ·exact hf.app c
 ·exact hf.more (Nat.le_succ _) (Nat.le_add_right _ _)
theorem VM.Ok.sync1 (x : List UInt8) : (Ax.withV x (fun _ f => ⟨f.now, f.now, []⟩) v).Ok n B k := h.withV (Nat.le_refl _) (Nat.le_refl _) fun _ hf => FI.Ok.rest _ _ hf.len
theorem VM.Ok.append (x c : List UInt8) : (v.append x c).Ok (n + 1) (B + c.length) (k + 1) := h.stepV (Nat.le_succ _) (Nat.le_add_right _ _) (h.tick.append1 x c)
theorem VM.Ok.sync (x : List UInt8) : (v.sync x).Ok n B (k + 1) := h.stepV (Nat.le_refl _) (Nat.le_refl _) (h.tick.sync1 x)
end
section
variable (s : SM) {n B k : Nat} {v : VM} (hs : s.At v) (h : v.Ok n B k) (hn : n ≤ 490) (hB : B ≤ 80000000) (hk : k ≤ 900000000)
include hs h hn hB hk
theorem create_s (x : List UInt8) : AFn Go.Proofs.Tryz.prog 139 [.ptr 0 0, .str x] s.H (fun _ : { s' : SM // s'.At (v.create x) } => AV.int .i64 (v.createE x)) (fun s' => s'.1.H) := by
 have hst := h.steps
 refine ACall.fin ?_
 refine ACall.walk (C := cfgN 8 4) (cfgNOk _ _) [] (fn := Go.Proofs.Tryz.f139) (by kernel_rfl) (by kernel_rfl) rfl (by kernel_rfl) (by kernel_rfl) rfl rfl ?_
 refine goA ?_
 refine ACall.boxF 4 rfl rfl [.ptr 0 0, .fnc (.func 205) [] [.pp [.ptr 0 0], .ptr 5 0]] ⟨.same .., .fnc ⟨.here .., .same .., rfl⟩, rfl⟩ ?_
 refine ACall.boxF 5 rfl rfl [.ptr 0 0, .fnc (.func 205) [] [.pp [.ptr 0 0], .pp [.str x]]] ⟨.same .., .fnc ⟨.same .., .here .., rfl⟩, rfl⟩ ?_
 have hc : ∀ σ : Nat → Nat, σ 0 = 0 → AV.rens σ [.pp [.ptr 0 0], .pp [.str x]] = [.pp [.ptr 0 0], .pp [.str x]] := fun σ h0 => by
  have h2 : AV.rens σ [.pp [.ptr 0 0], .pp [.str x]] = [.pp [.ptr (σ 0) 0], .pp [.str x]] := rfl
  rw [h2, h0]
 refine AFn.use [0, 1, 2, 3] (step2 s hs ⟨hst.1, by omega⟩ h.fuse hc (fun v => v.fd.createE x) (VM.create1 x) (fun ho hz s1 h1 => createIn s1 h1 ⟨⟨_, _, _, h.tick, hn, by omega⟩⟩ x) fun ho hz => (h.tick.create1 x).cl (by omega)) (by kernel_rfl) (by show _ = AV.ren _ (.ptr 0 0) :: [AV.ren _ (.fnc (.func 205) [] _)]; exact congrArg (fun l => [AV.ptr 0 0, AV.fnc (.func 205) [] l]) (hc _ rfl).symm) (by repeat' first | exact trivial | refine ⟨rfl, ?_⟩) fun s2 => ?_
 obtain ⟨s2, h3⟩ := s2
 refine goA ?_
 refine ⟨_, _, Ent.mk' (e' := [(0, AV.int .i64 (v.createE x))]) (H' := s2.H) [some 0, some 1, some 2, some 3] (by kernel_rfl) ⟨AVE.refl _, trivial⟩ (by repeat' (first | exact trivial | refine ⟨⟨_, rfl, ChE.refl _⟩, ?_⟩)), ⟨s2, h3⟩, rfl, rfl⟩
theorem syncDir_s : AFn Go.Proofs.Tryz.prog 143 [.ptr 0 0] s.H (fun _ : { s' : SM // s'.At (v.syncDir) } => AV.int .i64 (v.syncDirE)) (fun s' => s'.1.H) := by
 have hst := h.steps
 refine ACall.fin ?_
 refine ACall.walk (C := cfgN 6 4) (cfgNOk _ _) [] (fn := Go.Proofs.Tryz.f143) (by kernel_rfl) (by kernel_rfl) rfl (by kernel_rfl) (by kernel_rfl) rfl rfl ?_
 refine goA ?_
 refine ACall.boxF 4 rfl rfl [.ptr 0 0, .fnc (.func 208) [] [.pp [.ptr 0 0]]] ⟨.same .., .fnc ⟨.here .., rfl⟩, rfl⟩ ?_
 have hc : ∀ σ : Nat → Nat, σ 0 = 0 → AV.rens σ [.pp [.ptr 0 0]] = [.pp [.ptr 0 0]] := fun σ h0 => by
  have h2 : AV.rens σ [.pp [.ptr 0 0]] = [.pp [.ptr (σ 0) 0]] := rfl
  rw [h2, h0]
 refine AFn.use [0, 1, 2, 3] (step1 s hs ⟨hst.1, by omega⟩ h.fuse hc (fun _ => 0) (VM.syncDir1) (fun ho hz s1 h1 => syncDirIn s1 h1 ⟨⟨_, _, _, h.tick, hn, by omega⟩⟩) fun ho hz => (h.tick.syncDir1).cl (by omega)) (by kernel_rfl) (by show _ = AV.ren _ (.ptr 0 0) :: [AV.ren _ (.fnc (.func 208) [] _)]; exact congrArg (fun l => [AV.ptr 0 0, AV.fnc (.func 208) [] l]) (hc _ rfl).symm) (by repeat' first | exact trivial | refine ⟨rfl, ?_⟩) fun s2 => ?_
 obtain ⟨s2, h3⟩ := s2
 refine goA ?_
 refine ⟨_, _, Ent.mk' (e' := [(0, AV.int .i64 (v.syncDirE))]) (H' := s2.H) [some 0, some 1, some 2, some 3] (by kernel_rfl) ⟨AVE.refl _, trivial⟩ (by repeat' (first | exact trivial | refine ⟨⟨_, rfl, ChE.refl _⟩, ?_⟩)), ⟨s2, h3⟩, rfl, rfl⟩
theorem append_s (x c : List UInt8) (hcl : c.length ≤ 10000000) : AFn Go.Proofs.Tryz.prog 124 [.ptr 0 0, .str x, .iv (.bs c)] s.H (fun _ : { s' : SM // s'.At (v.append x c) } => AV.int .i64 (v.appendE x c)) (fun s' => s'.1.H) := by
 have hst := h.steps
 refine ACall.fin ?_
 refine ACall.walk (C := cfgN 11 4) (cfgNOk _ _) [] (fn := Go.Proofs.Tryz.f124) (by kernel_rfl) (by kernel_rfl) rfl (by kernel_rfl) (by kernel_rfl) rfl rfl ?_
 refine goA ?_
 refine ACall.boxF 4 rfl rfl [.ptr 0 0, .str x, .fnc (.func 184) [] [.pp [.ptr 0 0], .ptr 5 0]] ⟨.same .., .same .., .fnc ⟨.here .., .same .., rfl⟩, rfl⟩ ?_
 refine ACall.boxF 5 rfl rfl [.ptr 0 0, .str x, .fnc (.func 184) [] [.pp [.ptr 0 0], .pp [.iv (.bs c)]]] ⟨.same .., .same .., .fnc ⟨.same .., .here .., rfl⟩, rfl⟩ ?_
 have hc : ∀ σ : Nat → Nat, σ 0 = 0 → AV.rens σ [.pp [.ptr 0 0], .pp [.iv (.bs c)]] = [.pp [.ptr 0 0], .pp [.iv (.bs c)]] := fun σ h0 => by
  have h2 : AV.rens σ [.pp [.ptr 0 0], .pp [.iv (.bs c)]] = [.pp [.ptr (σ 0) 0], .pp [.iv (.bs c)]] := rfl
  rw [h2, h0]
 refine AFn.use [0, 1, 2, 3] (with2 s hs ⟨hst.1, by omega⟩ h.fuse x h.led hc (VM.appE c) (VM.appD c) (fun ho hz s1 h1 m f h2 h3 b h4 => appIn s1 h1 ho h.nd h4 c (h.nok (by omega)).now (fun p hp => by have := (h.files p hp).len; omega) h.quota hcl (by have := (h.file h3).ds; omega)) fun ho hz => (h.tick.append1 x c).cl (by omega)) (by kernel_rfl) (by show _ = AV.ren _ (.ptr 0 0) :: AV.ren _ (.str x) :: [AV.ren _ (.fnc (.func 184) [] _)]; exact congrArg (fun l => [AV.ptr 0 0, AV.str x, AV.fnc (.func 184) [] l]) (hc _ rfl).symm) (by repeat' first | exact trivial | refine ⟨rfl, ?_⟩) fun s2 => ?_
 obtain ⟨s2, h3⟩ := s2
 refine goA ?_
 refine ⟨_, _, Ent.mk' (e' := [(0, AV.int .i64 (v.appendE x c))]) (H' := s2.H) [some 0, some 1, some 2, some 3] (by kernel_rfl) ⟨AVE.refl _, trivial⟩ (by repeat' (first | exact trivial | refine ⟨⟨_, rfl, ChE.refl _⟩, ?_⟩)), ⟨s2, h3⟩, rfl, rfl⟩
theorem sync_s (x : List UInt8) : AFn Go.Proofs.Tryz.prog 120 [.ptr 0 0, .str x] s.H (fun _ : { s' : SM // s'.At (v.sync x) } => AV.int .i64 (v.syncE x)) (fun s' => s'.1.H) := by
 have hst := h.steps
 refine ACall.fin ?_
 refine ACall.walk (C := cfgN 8 4) (cfgNOk _ _) [] (fn := Go.Proofs.Tryz.f120) (by kernel_rfl) (by kernel_rfl) rfl (by kernel_rfl) (by kernel_rfl) rfl rfl ?_
 refine goA ?_
 refine ACall.argsE [.ptr 0 0, .str x, .fnc (.func 180) [] []] ⟨AVE.refl _, AVE.refl _, AVE.fncV _, rfl⟩ ?_
 have hc : ∀ σ : Nat → Nat, σ 0 = 0 → AV.rens σ [] = [] := fun σ h0 => by
  have h2 : AV.rens σ [] = [] := rfl
  rw [h2]
 refine AFn.use [0, 1, 2, 3] (with0 s hs ⟨hst.1, by omega⟩ h.fuse x h.led hc (fun _ _ => 0) (fun _ f => ⟨f.now, f.now, []⟩) (fun ho hz s1 h1 m f h2 h3 b h4 => syncIn s1 h1 h.nd h4 (by have := (h.file h3).len; omega)) fun ho hz => (h.tick.sync1 x).cl (by omega)) (by kernel_rfl) (by show _ = AV.ren _ (.ptr 0 0) :: AV.ren _ (.str x) :: [AV.ren _ (.fnc (.func 180) [] _)]; exact congrArg (fun l => [AV.ptr 0 0, AV.str x, AV.fnc (.func 180) [] l]) (hc _ rfl).symm) (by repeat' first | exact trivial | refine ⟨rfl, ?_⟩) fun s2 => ?_
 obtain ⟨s2, h3⟩ := s2
 refine goA ?_
 refine ⟨_, _, Ent.mk' (e' := [(0, AV.int .i64 (v.syncE x))]) (H' := s2.H) [some 0, some 1, some 2, some 3] (by kernel_rfl) ⟨AVE.refl _, trivial⟩ (by repeat' (first | exact trivial | refine ⟨⟨_, rfl, ChE.refl _⟩, ?_⟩)), ⟨s2, h3⟩, rfl, rfl⟩
end
end Go.Proofs.YtgfkepebfaiepaaGreatDoor.Ax
