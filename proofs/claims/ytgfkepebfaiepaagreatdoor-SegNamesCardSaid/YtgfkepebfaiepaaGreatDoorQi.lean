/-
  File systems in memory.
-/
import Derived.Test.YtgfkepebfaiepaaGreatDoorQh
import Derived.Test.YtgfkepebfaiepaaGreatDoorQf
namespace Go.Proofs.YtgfkepebfaiepaaGreatDoor.Ax
open Go.RowKit
set_option maxRecDepth 100000
structure SM where
 fd : FD
 fs : List (Nat × Nat × FI)
 quota : Int
 off : Bool
 steps : Int
 fuse : Int
def adI (b : Nat) : IV := .v (.pointer (some ⟨b, 0, none⟩))
def flM (l : List (Nat × Nat × FI)) : List (MK × IV) := l.map fun p => (.i .u64 (p.1 : Int), adI p.2.1)
def flO (l : List (Nat × Nat × FI)) : List (Nat × FI) := l.map fun p => p.2
def SM.H (s : SM) : AH := ⟨4, [(0, .cells 149 [.ptr 1 0, .mp 2, AV.int .i64 s.quota, AV.bool s.off, AV.int .i64 s.steps, AV.int .i64 s.fuse]), (1, .sem (Nest s.fd.H)), (2, .map (some .u64) (flM s.fs)), (3, .sem (Objs FI.H (flO s.fs)))]⟩
section
variable (s : SM)
theorem fnone_in : AFn Go.Proofs.Tryz.prog 77 [.ptr 0 0] s.H (fun _ : Unit => AV.bool false) (fun _ => s.H) := by
 refine ACall.walk (C := cfg 12 4) (cfgOk _ _) [] (fn := Go.Proofs.Tryz.f77) (by kernel_rfl) (by kernel_rfl) rfl (by kernel_rfl) (by kernel_rfl) rfl rfl ?_
 conv => whnf
 exact ⟨(), rfl, rfl⟩
def SM.pow (s : SM) : Int := bif s.off then 20 else 0
theorem power_in : AFn Go.Proofs.Tryz.prog 78 [.ptr 0 0] s.H (fun _ : Unit => AV.int .i64 s.pow) (fun _ => s.H) := by
 refine ACall.walk (C := cfg 11 4) (cfgOk _ _) [] (fn := Go.Proofs.Tryz.f78) (by kernel_rfl) (by kernel_rfl) rfl (by kernel_rfl) (by kernel_rfl) rfl rfl ?_
 refine goA ?_
 refine AFn.useA [0, 1, 2, 3] (fnone_in s) fun _ => ?_
 refine goA ?_
 cases ho : s.off with
 | true =>
   have e : s.pow = 20 := by simp [SM.pow, ho]
   rw [e]
   refine goA ?_
   exact ⟨(), rfl, by simp only [SM.H, ho]⟩
 | false =>
   have e : s.pow = 0 := by simp [SM.pow, ho]
   rw [e]
   refine goA ?_
   exact ⟨(), rfl, by simp only [SM.H, ho]⟩
end
end Go.Proofs.YtgfkepebfaiepaaGreatDoor.Ax

namespace Go.Proofs.YtgfkepebfaiepaaGreatDoor.Ax
open Go.RowKit
set_option maxRecDepth 100000
theorem mfind_flM (n : Nat) : ∀ l : List (Nat × Nat × FI), mfind (flM l) (.i .u64 (n : Int)) = (l.find? fun p => decide (p.1 = n)).map fun p => adI p.2.1
 | [] => rfl
 | p :: ps => by
   have ih := mfind_flM n ps
   unfold mfind flM at *
   by_cases h : p.1 = n
   ·subst h; simp
   ·have h2 : ¬ (MK.i .u64 (p.1 : Int) = MK.i .u64 (n : Int)) := fun e => h (by injection e with _ e; omega)
    simp only [List.map_cons, List.find?_cons, decide_eq_false h2, decide_eq_false h]
    exact ih
section
variable (s : SM)
theorem find_bad (x : List UInt8) (h : mayB x = false) : AFn Go.Proofs.Tryz.prog 181 [.ptr 0 0, .str x] s.H (fun _ : Unit => .tup [AV.nilPtr, AV.int .i64 1]) (fun _ => s.H) := by
 refine ACall.walk (C := cfg 28 4) (cfgOk _ _) [] (fn := Go.Proofs.Tryz.f181) (by kernel_rfl) (by kernel_rfl) rfl (by kernel_rfl) (by kernel_rfl) rfl rfl ?_
 refine goA ?_
 refine AFn.useA [] (may_ok x) fun _ => ?_
 rw [h]
 refine goA ?_
 exact ⟨(), rfl, rfl⟩
theorem find_no (x : List UInt8) (h : mayB x = true) (h2 : afind s.fd.now x = none) : AFn Go.Proofs.Tryz.prog 181 [.ptr 0 0, .str x] s.H (fun _ : Unit => .tup [AV.nilPtr, AV.int .i64 6]) (fun _ => s.H) := by
 refine ACall.fin ?_
 refine ACall.walk (C := cfg 28 4) (cfgOk _ _) [] (fn := Go.Proofs.Tryz.f181) (by kernel_rfl) (by kernel_rfl) rfl (by kernel_rfl) (by kernel_rfl) rfl rfl ?_
 refine goA ?_
 refine AFn.useA [] (may_ok x) fun _ => ?_
 rw [h]
 refine goA ?_
 refine AFn.useA [1] (find_ok s.fd x) fun _ => ?_
 rw [show s.fd.findB x = false by simp [FD.findB, h2]]
 refine goA ?_
 refine ⟨_, _, Ent.mk' (e' := [(0, .tup [AV.nilPtr, AV.int .i64 6])]) (H' := s.H) [some 0, some 1, some 2, some 3] (by kernel_rfl) ?_ ?_, (), rfl, rfl⟩
 ·exact ⟨AVE.refl _, trivial⟩
 ·exact subC
theorem find_yes (x : List UInt8) (n b : Nat) (f : FI) (h : mayB x = true) (h2 : afind s.fd.now x = some n) (h3 : (s.fs.find? fun p => decide (p.1 = n)) = some (n, b, f)) : AFn Go.Proofs.Tryz.prog 181 [.ptr 0 0, .str x] s.H (fun _ : Unit => .tup [ptrV b, AV.int .i64 0]) (fun _ => s.H) := by
 refine ACall.fin ?_
 refine ACall.walk (C := cfg 28 4) (cfgOk _ _) [] (fn := Go.Proofs.Tryz.f181) (by kernel_rfl) (by kernel_rfl) rfl (by kernel_rfl) (by kernel_rfl) rfl rfl ?_
 refine goA ?_
 refine AFn.useA [] (may_ok x) fun _ => ?_
 rw [h]
 refine goA ?_
 refine AFn.useA [1] (find_ok s.fd x) fun _ => ?_
 rw [show s.fd.findB x = true by simp [FD.findB, h2], show s.fd.findN x = n by simp [FD.findN, h2]]
 refine goA ?_
 rw [mfind_flM, h3]
 refine ⟨fun y hy => ?_, fun hy => by cases hy⟩
 cases hy
 refine goA ?_
 refine ⟨_, _, Ent.mk' (e' := [(0, .tup [ptrV b, AV.int .i64 0])]) (H' := s.H) [some 0, some 1, some 2, some 3] (by kernel_rfl) ?_ ?_, (), rfl, rfl⟩
 ·exact ⟨AVE.refl _, trivial⟩
 ·exact subC
end
end Go.Proofs.YtgfkepebfaiepaaGreatDoor.Ax

namespace Go.Proofs.YtgfkepebfaiepaaGreatDoor.Ax
open Go.RowKit
set_option maxRecDepth 100000
structure BFr (h : Nat) (cs : List AV) (x y : AV) : Prop where
 run : ∀ ρ ι ι' v, Imm.le ι ι' → (∀ u, (AV.ptr h 0).R ρ ι u → (AV.pp cs).R ρ ι' u) → x.R ρ ι v → y.R ρ ι' v
def boxsF (h : Nat) (cs : List AV) : List AV → List AV → Prop
 | [], ys => ys = []
 | _ :: _, [] => False
 | x :: xs, y :: ys => BFr h cs x y ∧ boxsF h cs xs ys
theorem BFr.same (h : Nat) (cs : List AV) (x : AV) : BFr h cs x x := ⟨fun _ _ _ _ hi _ hx => AV.R_mono (Rho.le.refl _) hi _ _ hx⟩
theorem BFr.here (h : Nat) (cs : List AV) : BFr h cs (.ptr h 0) (.pp cs) := ⟨fun _ _ _ v _ hp hx => hp v hx⟩
theorem boxsF_run {h : Nat} {cs : List AV} {ρ : Rho} {ι ι' : Imm} (hi : Imm.le ι ι') (hp : ∀ u, (AV.ptr h 0).R ρ ι u → (AV.pp cs).R ρ ι' u) : ∀ {xs ys : List AV} {vs : List Value}, boxsF h cs xs ys → AV.Rs ρ ι xs vs → AV.Rs ρ ι' ys vs
 | [], ys, vs, h, hr => by simp only [boxsF] at h; subst h; simpa only [AV.Rs] using hr
 | x :: xs, [], vs, h, hr => h.elim
 | x :: xs, y :: ys, vs, h, hr => by
   simp only [AV.Rs] at hr ⊢
   obtain ⟨u, us, e, r, rs⟩ := hr
   exact ⟨u, us, e, h.1.run _ _ _ _ hi hp r, boxsF_run hi hp h.2 rs⟩
theorem BFr.fnc {h : Nat} {cs : List AV} {fn : Fn} {a c c' : List AV} (hc : boxsF h cs c c') : BFr h cs (.fnc fn a c) (.fnc fn a c') := ⟨fun ρ ι ι' v hi hp hx => by
 simp only [AV.R] at hx ⊢
 obtain ⟨ws, ds, e, r1, r2⟩ := hx
 exact ⟨ws, ds, e, AV.Rs_mono (Rho.le.refl _) hi _ _ r1, boxsF_run hi hp hc r2⟩⟩
theorem ACall.boxF {P : Program} {F : FuncId} {args : List AV} {H : AH} {K QP : AV → AH → Prop} (h : Nat) {e : TypeId} {cs : List AV} (hc : H.get h = some (.cells e cs)) (hone : cs.all AV.one = true) (args0 : List AV) (ha : boxsF h cs args args0) (hcall : ACall P F args0 (H.del h) K QP) : ACall P F args H K QP :=
 ⟨hcall.fn, fun ρ ι w cargs hG hS hr => by
  obtain ⟨hv, hhr, b, vs, g1, g2, g3, g4⟩ := hS.hv hc
  have hone' := all_one hone g4
  obtain ⟨q1, q2, q3⟩ := hS.freeze hc hhr ((g2 b).2 rfl) (fun o => vs[o]?) (fun o v hg => ⟨cellAt g3 (by simpa using hg), hone' v (List.mem_of_getElem? hg)⟩)
  refine (hcall.run ρ _ w cargs (hG.mono q1) q2 (boxsF_run q1 (fun u hu => ?_) ha hr)).mono fun en w' hp => ?_
  ·simp only [AV.R] at hu ⊢
   obtain ⟨hu', b', e1, e2, rfl⟩ := hu
   rw [hhr] at e1; injection e1 with e1; subst e1
   rw [g1] at e2; injection e2 with e2; subst e2
   exact ⟨_, vs, rfl, rfl, AV.Rs_mono (Rho.le.refl _) q1 _ _ g4, fun j u hj => by simpa using hj⟩
  ·cases en with
   | returned v => obtain ⟨r, H', ρ', ι2, k, g1, g2, g3⟩ := hp; exact ⟨r, H', ρ', ι2, k, g1, g2, q3.trans g3⟩
   | panicked ch => obtain ⟨v, e, r, H', ρ', ι2, k, g1, g2, g3⟩ := hp; exact ⟨v, e, r, H', ρ', ι2, k, g1, g2, q3.trans g3⟩
   | outgrown => exact hp⟩
def ExS {X : Type} (p : X → Prop) (F : X → AH) : SemP where
 R ι hv w := ∃ x, p x ∧ (Nest (F x)).R ι hv w
 loc ι ι' hv w w' h1 h2 := fun ⟨x, h3, h4⟩ => ⟨x, h3, (Nest (F x)).loc ι ι' hv w w' h1 h2 h4⟩
theorem ChE.exS {X : Type} {p : X → Prop} {F : X → AH} (x : X) (hx : p x) : ChE (.sem (Nest (F x))) (.sem (ExS p F)) := ⟨fun _ _ _ _ h => ⟨x, hx, h⟩⟩
theorem ACall.exS {P : Program} {f : FuncId} {X : Type} {p : X → Prop} {F : X → AH} {args : List AV} {H : AH} {K QP : AV → AH → Prop} (h : Nat) (hc : H.get h = some (.sem (ExS p F))) (hx : ∃ x, p x) (hcall : ∀ x, p x → ACall P f args (H.set h (.sem (Nest (F x)))) K QP) : ACall P f args H K QP :=
 ⟨let ⟨x, hx⟩ := hx; (hcall x hx).fn, fun ρ ι w cargs hG hS hr => by
  obtain ⟨hv, hhr, x, hpx, hN⟩ := hS.hv hc
  obtain ⟨s1, s2⟩ := hS.turn (c' := .sem (Nest (F x))) hc hhr (Touch.refl _ _) hN
  refine ((hcall x hpx).run ρ ι w cargs hG s1 hr).mono fun en w' hp => ?_
  cases en with
  | returned v => obtain ⟨r, H', ρ', ι2, k, g1, g2, g3⟩ := hp; exact ⟨r, H', ρ', ι2, k, g1, g2, s2.trans g3⟩
  | panicked ch => obtain ⟨v, e, r, H', ρ', ι2, k, g1, g2, g3⟩ := hp; exact ⟨v, e, r, H', ρ', ι2, k, g1, g2, s2.trans g3⟩
  | outgrown => exact hp⟩
structure VM where
 fd : FD
 fs : List (Nat × FI)
 quota : Int
 off : Bool
 steps : Int
 fuse : Int
def vfs (l : List (Nat × Nat × FI)) : List (Nat × FI) := l.map fun p => (p.1, p.2.2)
@[reducible] def SM.val (s : SM) : VM := ⟨s.fd, vfs s.fs, s.quota, s.off, s.steps, s.fuse⟩
structure SM.At (s : SM) (v : VM) : Prop where
 val : s.val = v
 nd : (s.fs.map fun p => p.2.1).Nodup
def fsV (v : VM) : SemP := ExS (fun s : SM => s.At v) SM.H
@[reducible] def fone (v : VM) : AH := ⟨1, [(0, .sem (fsV v))]⟩
theorem vm_at (v : VM) : ∃ s : SM, s.At v := by
 have key : ∀ (l : List (Nat × FI)) (k : Nat), ∃ m : List (Nat × Nat × FI), vfs m = l ∧ (m.map fun p => p.2.1).Nodup ∧ ∀ p ∈ m, k ≤ p.2.1 := by
  intro l
  induction l with
  | nil => intro k; exact ⟨[], rfl, List.nodup_nil, fun p hp => by cases hp⟩
  | cons q l ih =>
    intro k
    obtain ⟨m, h1, h2, h3⟩ := ih (k + 1)
    refine ⟨(q.1, k, q.2) :: m, by rw [← h1]; rfl, ?_, fun p hp => ?_⟩
    ·rw [List.map_cons, List.nodup_cons]
     refine ⟨fun hm => ?_, h2⟩
     obtain ⟨p, hp, e⟩ := List.mem_map.1 hm
     have := h3 p hp
     simp only at e
     omega
    ·rcases List.mem_cons.1 hp with rfl | hp
     ·exact Nat.le_refl _
     ·have := h3 p hp; omega
 obtain ⟨m, h1, h2, _⟩ := key v.fs 0
 exact ⟨⟨v.fd, m, v.quota, v.off, v.steps, v.fuse⟩, by cases v; simp only [SM.val] at *; rw [h1], h2⟩
theorem AFn.val {P : Program} {f : FuncId} {args : List AV} {r : AV} {v v' : VM} (h : ∀ s : SM, s.At v → AFn P f args (one s.H) (fun _ : { s' : SM // s'.At v' } => r) (fun s' => one s'.1.H)) : AFn P f args (fone v) (fun _ : Unit => r) fun _ => fone v' :=
 ACall.exS 0 rfl (vm_at v) fun s hs => ACall.hent (HEnt.refl _) ((h s hs).mono (fun r' H' ⟨⟨s', hs'⟩, e1, e2⟩ => by
  subst e1 e2
  exact ⟨_, HEnt.chunk (h := 0) rfl (ChE.exS s' hs'), (), rfl, rfl⟩) fun _ _ h => h.elim)
end Go.Proofs.YtgfkepebfaiepaaGreatDoor.Ax

namespace Go.Proofs.YtgfkepebfaiepaaGreatDoor.Ax
open Go.RowKit
set_option maxRecDepth 100000
def ffind (l : List (Nat × FI)) (n : Nat) : Option FI := (l.find? fun p => decide (p.1 = n)).map (·.2)
def fset (l : List (Nat × FI)) (n : Nat) (f : FI) : List (Nat × FI) := l.map fun p => if p.1 = n then (n, f) else p
def SM.put (s : SM) (b : Nat) (f : FI) : SM := { s with fs := s.fs.map fun p => if p.2.1 = b then (p.1, b, f) else p }
theorem flO_put (s : SM) (b : Nat) (f : FI) : flO (s.put b f).fs = lset (flO s.fs) b f := by
 unfold flO lset SM.put
 rw [List.map_map, List.map_map]
 refine List.map_congr_left fun p _ => ?_
 simp only [Function.comp]
 split <;> rfl
theorem flM_put (s : SM) (b : Nat) (f : FI) : flM (s.put b f).fs = flM s.fs := by
 unfold flM SM.put
 rw [List.map_map]
 refine List.map_congr_left fun p _ => ?_
 simp only [Function.comp]
 split
 ·rename_i h; subst h; rfl
 ·rfl
theorem blk_put (s : SM) (b : Nat) (f : FI) : ((s.put b f).fs.map fun p => p.2.1) = s.fs.map fun p => p.2.1 := by
 unfold SM.put
 rw [List.map_map]
 refine List.map_congr_left fun p _ => ?_
 simp only [Function.comp]
 split
 ·rename_i h; exact h.symm
 ·rfl
theorem inj_of {β γ : Type} [DecidableEq γ] {g : β → γ} : ∀ {l : List β}, (l.map g).Nodup → ∀ {p q : β}, p ∈ l → q ∈ l → g p = g q → p = q
 | [], _, p, _, hp, _, _ => by cases hp
 | a :: l, h, p, q, hp, hq, e => by
   simp only [List.map_cons, List.nodup_cons] at h
   rcases List.mem_cons.1 hp with e1 | h1 <;> rcases List.mem_cons.1 hq with e2 | h2
   ·rw [e1, e2]
   ·exact absurd (by rw [← e1, e]; exact List.mem_map_of_mem h2) h.1
   ·exact absurd (by rw [← e2, ← e]; exact List.mem_map_of_mem h1) h.1
   ·exact inj_of h.2 h1 h2 e
theorem put_self {s : SM} (hn : (s.fs.map fun p => p.2.1).Nodup) {n b : Nat} {f : FI} (h : (n, b, f) ∈ s.fs) : s.put b f = s := by
 have e : (s.fs.map fun p => if p.2.1 = b then (p.1, b, f) else p) = s.fs := by
  conv => rhs; rw [← List.map_id s.fs]
  refine List.map_congr_left fun p hp => ?_
  split
  ·rename_i hb
   rw [inj_of hn hp h hb]; rfl
  ·rfl
 unfold SM.put
 rw [e]
theorem find_of {s : SM} {n b : Nat} {f : FI} (h : (s.fs.find? fun p => decide (p.1 = n)) = some (n, b, f)) : (n, b, f) ∈ s.fs ∧ (b, f) ∈ flO s.fs :=
 have h1 := List.mem_of_find?_eq_some h
 ⟨h1, List.mem_map.2 ⟨_, h1, rfl⟩⟩
theorem ffind_vfs (l : List (Nat × Nat × FI)) (n : Nat) : ffind (vfs l) n = (l.find? fun p => decide (p.1 = n)).map fun p => p.2.2 := by
 unfold ffind vfs
 rw [List.find?_map, Option.map_map]
 rfl
theorem at_find {s : SM} {v : VM} (hs : s.At v) {n : Nat} {f : FI} (h : ffind v.fs n = some f) : ∃ b, (s.fs.find? fun p => decide (p.1 = n)) = some (n, b, f) := by
 rw [← hs.val] at h
 rw [show s.val.fs = vfs s.fs from rfl, ffind_vfs] at h
 obtain ⟨⟨n', b, f'⟩, h1, h2⟩ := Option.map_eq_some_iff.1 h
 have h3 := List.find?_some h1
 simp only [decide_eq_true_eq] at h2 h3
 subst h2 h3
 exact ⟨b, h1⟩
theorem file_put {s : SM} {v : VM} (hs : s.At v) (hn : (v.fs.map (·.1)).Nodup) {n b : Nat} {f : FI} (h : (s.fs.find? fun p => decide (p.1 = n)) = some (n, b, f)) (f' : FI) : (s.put b f').At { v with fs := fset v.fs n f' } := by
 have hv := hs.val
 subst hv
 have hm := (find_of h).1
 refine ⟨?_, by rw [blk_put]; exact hs.nd⟩
 have e : vfs (s.fs.map fun p => if p.2.1 = b then (p.1, b, f') else p) = fset (vfs s.fs) n f' := by
  unfold vfs fset
  rw [List.map_map, List.map_map]
  refine List.map_congr_left fun p hp => ?_
  have hn' : (s.fs.map fun p => p.1).Nodup := by
   have := hn
   rw [show s.val.fs = vfs s.fs from rfl] at this
   unfold vfs at this
   rw [List.map_map] at this
   exact this
  simp only [Function.comp]
  by_cases e1 : p.2.1 = b
  ·have e2 : p = (n, b, f) := inj_of hs.nd hp hm e1
   subst e2
   simp
  ·have e2 : p.1 ≠ n := fun e2 => e1 (by rw [inj_of (g := fun p : Nat × Nat × FI => p.1) hn' hp hm e2])
   rw [if_neg e1, if_neg e2]
 simp only [SM.val, SM.put]
 rw [e]
theorem AFn.atF {g : FuncId} (s : SM) {b : Nat} {f f' : FI} {args : List AV} {r : AV} (hb : (b, f) ∈ flO s.fs) (h : AFn Go.Proofs.Tryz.prog g (.ptr 0 0 :: args) (one f.H) (fun _ : Unit => r) (fun _ => one f'.H)) (ha : ∀ σ, AV.rens σ args = args) (hr : ∀ σ, r.ren σ = r) :
 AFn Go.Proofs.Tryz.prog g (ptrV b :: args) s.H (fun _ : Unit => r) (fun _ => (s.put b f').H) := by
 refine ACall.fin (ACall.atObj fi_root 3 b rfl hb ?_)
 refine AFn.use [4] h (by kernel_rfl) ?_ (by repeat' first | exact trivial | refine ⟨rfl, ?_⟩) fun _ => ?_
 ·show _ = AV.ren _ (.ptr 0 0) :: AV.rens _ args
  rw [ha]
  rfl
 ·refine ⟨f', rfl, rfl, ?_⟩
  rw [hr]
  refine ⟨_, _, Ent.mk' (e' := [(0, r)]) (H' := (s.put b f').H) [some 0, some 1, some 2, some 3] (by kernel_rfl) ⟨?_, trivial⟩ ⟨⟨_, rfl, ChE.refl _⟩, ⟨_, rfl, ChE.refl _⟩, ⟨_, rfl, ?_⟩, ⟨_, rfl, ?_⟩, trivial⟩, (), rfl, rfl⟩
  ·rw [hr]; exact AVE.refl _
  ·exact ChE.of_eq (by rw [flM_put]; rfl)
  ·exact ChE.of_eq (by rw [flO_put]; rfl)
theorem AFn.eqH {P : Program} {f : FuncId} {args : List AV} {H H1 : AH} {r : AV} (h : AFn P f args H (fun _ : Unit => r) fun _ => H1) {H2 : AH} (e : H1 = H2) : AFn P f args H (fun _ : Unit => r) fun _ => H2 := e ▸ h
section
variable (s : SM) {n b : Nat} {f : FI} (hn : (s.fs.map fun p => p.2.1).Nodup) (hf : (s.fs.find? fun p => decide (p.1 = n)) = some (n, b, f))
include hn hf
theorem size_at : AFn Go.Proofs.Tryz.prog 80 [ptrV b] s.H (fun _ : Unit => AV.int .i64 f.now.length) (fun _ => s.H) :=
 (AFn.atF s (find_of hf).2 (size_ok f) (fun _ => rfl) fun _ => rfl).eqH (by rw [put_self hn (find_of hf).1])
omit hn
theorem app_at (c : List UInt8) (hb : f.now.length + c.length ≤ 100000000) (hl : f.ds.length ≤ 100000) : AFn Go.Proofs.Tryz.prog 185 [ptrV b, .iv (.bs c)] s.H (fun _ : Unit => AV.int .i64 0) (fun _ => (s.put b (f.app c)).H) :=
 AFn.atF s (find_of hf).2 (fapp_ok f c hb hl) (fun _ => rfl) fun _ => rfl
theorem sync_at (hb : f.now.length ≤ 140737488355328) : AFn Go.Proofs.Tryz.prog 180 [ptrV b] s.H (fun _ : Unit => AV.int .i64 0) (fun _ => (s.put b ⟨f.now, f.now, []⟩).H) :=
 AFn.atF s (find_of hf).2 (fsync_ok f hb) (fun _ => rfl) fun _ => rfl
end
theorem size_nil : AFn Go.Proofs.Tryz.prog 80 [AV.nilPtr] ⟨0, []⟩ (fun _ : Unit => AV.int .i64 0) (fun _ => ⟨0, []⟩) := by
 refine ACall.walk (C := cfg 10 0) (cfgOk _ _) [] (fn := Go.Proofs.Tryz.f80) (by kernel_rfl) (by kernel_rfl) rfl (by kernel_rfl) (by kernel_rfl) rfl rfl ?_
 conv => whnf
 exact ⟨(), rfl, rfl⟩
theorem index_ok (l : List Nat) (hl : l.length ≤ 10000000) (x : Nat) : AFn Go.Proofs.Tryz.prog 235 [.iv (.sl 1 l.length (uF l.toArray)), AV.int .u64 x] ⟨0, []⟩ (fun y : { y : Int // 0 ≤ y ↔ x ∈ l } => AV.int .i64 y.1) (fun _ => ⟨0, []⟩) := by
 refine ACall.fin ?_
 refine ACall.walk (C := cfg 19 0) (cfgOk _ _) [] (fn := Go.Proofs.Tryz.f235) (by kernel_rfl) (by kernel_rfl) rfl (by kernel_rfl) (by kernel_rfl) rfl rfl ?_
 refine goA ?_
 refine AWP.loop (X := { i : Nat // i ≤ l.length ∧ ∀ j, j < i → l.getD j 0 ≠ x }) (fun y => [(0, .iv (.sl 1 l.length (uF l.toArray))), (1, AV.int .u64 x), (7, AV.int .i64 l.length), (8, AV.int .i64 y.1)]) (fun y => ⟨0, []⟩) (fun y => l.length - y.1) (⟨0, Nat.zero_le _, fun j hj => absurd hj (Nat.not_lt_zero _)⟩) ?_ fun y => AWP.go (S := []) (cfgOk _ _) (.of_eq (by kernel_rfl)) ?_
 ·exact Ent.mkA []
 ·obtain ⟨i, hi, hne⟩ := y
  refine goA ?_
  refine ifdA (fun h1 => ?_) (fun h1 => ?_) <;> (try dsimp only at h1)
  ·have hlt : i < l.length := by omega
   refine goA ?_
   refine ifdA (fun h2 => ?_) (fun h2 => ?_) <;> (try dsimp only at h2)
   ·refine goA ?_
    refine ⟨AV.int .i64 i, ⟨0, []⟩, Ent.mk' [] (by kernel_rfl) ⟨AVE.refl _, trivial⟩ trivial, ⟨(i : Int), ⟨fun _ => ?_, fun _ => by omega⟩⟩, rfl, rfl⟩
    have : l.getD i 0 = x := by
     simp [List.getD, hlt] at h2 ⊢
     omega
    rw [← this]
    simp [List.getD, hlt]
   ·refine goA ?_
    refine ⟨⟨i + 1, by omega, fun j hj => by
     rcases Nat.lt_succ_iff_lt_or_eq.1 hj with h | h
     ·exact hne j h
     ·subst h
      intro e
      apply h2
      simp [List.getD, hlt] at e ⊢
      omega⟩, Ent.mkA [], ?_⟩
    show l.length - (i + 1) < l.length - i
    omega
  ·refine goA ?_
   refine ⟨AV.int .i64 (-1), ⟨0, []⟩, Ent.mk' [] (by kernel_rfl) ⟨AVE.refl _, trivial⟩ trivial, ⟨-1, ⟨fun h => by omega, fun hm => ?_⟩⟩, rfl, rfl⟩
   obtain ⟨j, hj, e⟩ := List.getElem_of_mem hm
   exact absurd (by simp [List.getD, hj, e]) (hne j (by omega))
theorem contains_ok (l : List Nat) (hl : l.length ≤ 10000000) (x : Nat) : AFn Go.Proofs.Tryz.prog 165 [.iv (.sl 1 l.length (uF l.toArray)), AV.int .u64 x] ⟨0, []⟩ (fun _ : Unit => AV.bool (decide (x ∈ l))) (fun _ => ⟨0, []⟩) := by
 refine ACall.fin ?_
 refine ACall.walk (C := cfg 9 0) (cfgOk _ _) [] (fn := Go.Proofs.Tryz.f165) (by kernel_rfl) (by kernel_rfl) rfl (by kernel_rfl) (by kernel_rfl) rfl rfl ?_
 refine goA ?_
 refine AFn.useA [] (index_ok l hl x) fun y => ?_
 obtain ⟨y, hy⟩ := y
 refine goA ?_
 refine ⟨AV.bool (decide (x ∈ l)), ⟨0, []⟩, Ent.mk' [] (by kernel_rfl) ⟨AVE.bool ?_, trivial⟩ trivial, (), rfl, rfl⟩
 rw [Bool.eq_iff_iff, decide_eq_true_eq, decide_eq_true_eq]
 exact hy
end Go.Proofs.YtgfkepebfaiepaaGreatDoor.Ax

namespace Go.Proofs.YtgfkepebfaiepaaGreatDoor.Ax
open Go.RowKit
set_option maxRecDepth 100000
theorem ChE.standing {kk : Option IntKind} {m : List (MK × IV)} {left : List MK} {i : Nat} {la : Option (MK × IV)} {m' : List (MK × IV)} (h : m = m') : ChE (.mapit kk m left i la) (.mapit kk m' left i none) := h ▸ ChE.stand
def SM.clean (s : SM) : SM := { s with fs := s.fs.filter fun p => decide (p.1 ∈ s.fd.live) }
def VM.clean (v : VM) : VM := { v with fs := v.fs.filter fun p => decide (p.1 ∈ v.fd.live) }
theorem clean_at {s : SM} {v : VM} (h : s.At v) : s.clean.At v.clean := by
 have hv := h.val
 subst hv
 refine ⟨?_, (List.Sublist.map _ List.filter_sublist).nodup h.nd⟩
 simp only [SM.val, SM.clean, VM.clean, vfs]
 rw [List.filter_map]
 rfl
def fsL (s : SM) (left : List MK) : List (Nat × Nat × FI) := s.fs.filter fun p => decide (p.1 ∈ s.fd.live ∨ MK.i .u64 (p.1 : Int) ∈ left)
theorem mdel_flM (l : List (Nat × Nat × FI)) (n : Nat) : mdel (flM l) (.i .u64 (n : Int)) = flM (l.filter fun p => decide (p.1 ≠ n)) := by
 unfold mdel flM
 rw [List.filter_map]
 congr 1
 refine List.filter_congr fun p _ => ?_
 simp only [Function.comp]
 rw [decide_eq_decide]
 constructor
 ·intro h e; exact h (by rw [e])
 ·intro h e; injection e with _ e; exact h (by omega)
theorem fsL_all (s : SM) : fsL s ((flM s.fs).map (·.1)) = s.fs := by
 unfold fsL
 rw [List.filter_eq_self]
 intro p hp
 refine decide_eq_true (.inr ?_)
 exact List.mem_map.2 ⟨_, List.mem_map_of_mem (f := fun p : Nat × Nat × FI => (MK.i .u64 (p.1 : Int), adI p.2.1)) hp, rfl⟩
theorem fsL_live {s : SM} {left : List MK} {n : Nat} (h : n ∈ s.fd.live) : fsL s left = fsL s (left.filter fun k => decide (k ≠ MK.i .u64 (n : Int))) := by
 unfold fsL
 refine List.filter_congr fun p _ => ?_
 rw [decide_eq_decide, List.mem_filter]
 constructor
 ·rintro (h1 | h1)
  ·exact .inl h1
  ·by_cases e : p.1 = n
   ·exact .inl (e ▸ h)
   ·exact .inr ⟨h1, decide_eq_true fun e2 => e (by injection e2 with _ e2; omega)⟩
 ·rintro (h1 | h1)
  ·exact .inl h1
  ·exact .inr h1.1
theorem fsL_gone {s : SM} {left : List MK} {n : Nat} (h : n ∉ s.fd.live) : ((fsL s left).filter fun p => decide (p.1 ≠ n)) = fsL s (left.filter fun k => decide (k ≠ MK.i .u64 (n : Int))) := by
 unfold fsL
 rw [List.filter_filter]
 refine List.filter_congr fun p _ => ?_
 rw [Bool.eq_iff_iff, Bool.and_eq_true, decide_eq_true_eq, decide_eq_true_eq, decide_eq_true_eq, List.mem_filter]
 constructor
 ·rintro ⟨h1, h2 | h2⟩
  ·exact .inl h2
  ·exact .inr ⟨h2, decide_eq_true fun e2 => h1 (by injection e2 with _ e2; omega)⟩
 ·rintro (h1 | h1)
  ·exact ⟨fun e => h (e ▸ h1), .inl h1⟩
  ·refine ⟨fun e => ?_, .inr h1.1⟩
   have := of_decide_eq_true h1.2
   exact this (by rw [e])
theorem fsL_end {s : SM} {left : List MK} (h : ∀ p ∈ flM (fsL s left), p.1 ∉ left) : fsL s left = s.clean.fs := by
 unfold fsL SM.clean
 refine List.filter_congr fun p hp => ?_
 rw [decide_eq_decide]
 constructor
 ·rintro (h1 | h1)
  ·exact h1
  ·refine absurd h1 (h (MK.i .u64 (p.1 : Int), adI p.2.1) ?_)
   exact List.mem_map.2 ⟨p, List.mem_filter.2 ⟨hp, decide_eq_true (.inr h1)⟩, rfl⟩
 ·exact .inl
section
variable (s : SM)
theorem clean_in (hin : s.fd.In NOk) (hds : s.fd.ds.length ≤ 500) : AFn Go.Proofs.Tryz.prog 106 [.ptr 0 0] s.H (fun _ : Unit => .tup []) (fun _ => s.clean.H) := by
 have hl := live_len hin
 refine ACall.fin ?_
 refine ACall.walk (C := cfg 27 4) (cfgOk _ _) [] (fn := Go.Proofs.Tryz.f106) (by kernel_rfl) (by kernel_rfl) rfl (by kernel_rfl) (by kernel_rfl) rfl rfl ?_
 refine goA ?_
 refine AFn.useA [1] (live_ok s.fd hin hds) fun _ => ?_
 refine goA ?_
 refine AWP.loop (X := List MK) (fun x => [(0, .ptr 0 0), (2, .iv (.sl 1 s.fd.live.length (uF s.fd.live.toArray))), (13, .ptr 4 0)]) (fun x => ⟨5, [(0, .cells 149 [.ptr 1 0, .mp 2, AV.int .i64 s.quota, AV.bool s.off, AV.int .i64 s.steps, AV.int .i64 s.fuse]), (1, .sem (Nest s.fd.H)), (2, .mapit (some .u64) (flM (fsL s x)) x 4 none), (3, .sem (Objs FI.H (flO s.fs)))]⟩) (fun x => x.length) ((flM s.fs).map (·.1)) ?_ fun x => AWP.go (S := []) (cfgOk _ _) (.of_eq (by kernel_rfl)) ?_
 ·rw [fsL_all]
  exact Ent.mkA [some 0, some 1, some 2, some 3, some 4]
 ·refine goA ?_
  refine ⟨fun p hp hx => ?_, fun hnone => ?_⟩
  ·obtain ⟨⟨n, b, f⟩, hq, rfl⟩ := List.mem_map.1 hp
   refine goA ?_
   refine AFn.useA [] (contains_ok s.fd.live (by omega) n) fun _ => ?_
   refine goA ?_
   cases hc : decide (n ∈ s.fd.live) with
   | true =>
     refine goA ?_
     refine ⟨x.filter fun k => decide (k ≠ MK.i .u64 (n : Int)), Ent.mkC [some 0, some 1, some 2, some 3, some 4] ?_, ?_⟩
     ·exact ⟨⟨_, rfl, ChE.refl _⟩, ⟨_, rfl, ChE.refl _⟩, ⟨_, rfl, ChE.standing (by rw [← fsL_live (of_decide_eq_true hc)])⟩, ⟨_, rfl, ChE.refl _⟩, trivial⟩
     ·exact List.length_filter_lt_length_iff_exists.2 ⟨_, hx, by simp⟩
   | false =>
     refine goA ?_
     refine ⟨x.filter fun k => decide (k ≠ MK.i .u64 (n : Int)), Ent.mkC [some 0, some 1, some 2, some 3, some 4] ?_, ?_⟩
     ·exact ⟨⟨_, rfl, ChE.refl _⟩, ⟨_, rfl, ChE.refl _⟩, ⟨_, rfl, ChE.standing (by rw [← fsL_gone (of_decide_eq_false hc), ← mdel_flM])⟩, ⟨_, rfl, ChE.refl _⟩, trivial⟩
     ·exact List.length_filter_lt_length_iff_exists.2 ⟨_, hx, by simp⟩
  ·have e := fsL_end hnone
   refine goA ?_
   rw [e]
   refine ⟨_, _, Ent.mk' (e' := [(0, AV.tup [])]) (H' := s.clean.H) [some 0, some 1, some 2, some 3] (by kernel_rfl) ⟨AVE.refl _, trivial⟩ ⟨⟨_, rfl, ChE.refl _⟩, ⟨_, rfl, ChE.refl _⟩, ⟨_, rfl, ChE.refl _⟩, ⟨_, rfl, ChE.objs (List.Sublist.map _ List.filter_sublist)⟩, trivial⟩, (), rfl, rfl⟩
end
def fsz (l : List (Nat × FI)) (n : Nat) : Nat := match ffind l n with
 | some f => f.now.length
 | none => 0
def VM.used (v : VM) : Nat := ((lsN v.fd.now).map fun p => fsz v.fs p.2).sum
def VM.usedTo (v : VM) (i : Nat) : Nat := (((lsN v.fd.now).take i).map fun p => fsz v.fs p.2).sum
theorem fsz_vfs (l : List (Nat × Nat × FI)) (n : Nat) : fsz (vfs l) n = match l.find? (fun p => decide (p.1 = n)) with
 | some p => p.2.2.now.length
 | none => 0 := by
 unfold fsz
 rw [ffind_vfs]
 cases l.find? (fun p => decide (p.1 = n)) <;> rfl
theorem used_all (v : VM) : v.usedTo (lsN v.fd.now).length = v.used := by unfold VM.usedTo VM.used; rw [List.take_length]
theorem used_succ (v : VM) {i : Nat} (h : i < (lsN v.fd.now).length) : v.usedTo (i + 1) = v.usedTo i + fsz v.fs ((lsN v.fd.now).getD i ([], 0)).2 := by
 unfold VM.usedTo
 rw [List.take_add_one, List.getElem?_eq_getElem h, List.map_append, List.sum_append]
 simp [List.getD, h]
theorem usedTo_le {v : VM} {B : Nat} (hB : ∀ p ∈ v.fs, p.2.now.length ≤ B) : ∀ i, v.usedTo i ≤ i * B
 | 0 => by simp [VM.usedTo]
 | i + 1 => by
   have ih := usedTo_le hB i
   have e : (i + 1) * B = i * B + B := by rw [Nat.add_mul, Nat.one_mul]
   by_cases h : i < (lsN v.fd.now).length
   ·rw [used_succ v h, e]
    have : fsz v.fs ((lsN v.fd.now).getD i ([], 0)).2 ≤ B := by
     unfold fsz
     split
     ·rename_i f hf
      unfold ffind at hf
      obtain ⟨p, hp, rfl⟩ := Option.map_eq_some_iff.1 hf
      exact hB p (List.mem_of_find?_eq_some hp)
     ·exact Nat.zero_le _
    omega
   ·have : v.usedTo (i + 1) = v.usedTo i := by
     unfold VM.usedTo
     rw [List.take_of_length_le (by omega), List.take_of_length_le (by omega)]
    omega
section
variable (s : SM) (hn : (s.fs.map fun p => p.2.1).Nodup) (hm : NOk s.fd.now) (hB : ∀ p ∈ s.val.fs, p.2.now.length ≤ 100000000)
include hn hm hB
theorem used_in : AFn Go.Proofs.Tryz.prog 22 [.ptr 0 0] s.H (fun _ : Unit => AV.int .i64 (bif s.off then 0 else (s.val.used : Int))) (fun _ => s.H) := by
 have hl := lsN_length s.fd.now
 have hl2 := hm.len
 refine ACall.fin ?_
 refine ACall.walk (C := cfg 31 4) (cfgOk _ _) sch22 (fn := Go.Proofs.Tryz.f22) (by kernel_rfl) (by kernel_rfl) rfl (by kernel_rfl) (by kernel_rfl) rfl rfl ?_
 refine goA ?_
 refine AFn.useA [0, 1, 2, 3] (power_in s) fun _ => ?_
 refine goA ?_
 rcases Bool.eq_false_or_eq_true s.off with ho | ho
 ·have e : s.pow = 20 := by simp [SM.pow, ho]
  have e2 : (bif s.off then 0 else (s.val.used : Int)) = 0 := by rw [ho]; rfl
  rw [e, e2]
  refine goA ?_
  refine ⟨_, _, Ent.mk' (e' := [(0, AV.int .i64 0)]) (H' := s.H) [some 0, some 1, some 2, some 3] (by kernel_rfl) ?_ ?_, (), rfl, rfl⟩
  ·exact ⟨AVE.refl _, trivial⟩
  ·exact subC
 ·have e : s.pow = 0 := by simp [SM.pow, ho]
  have e2 : (bif s.off then 0 else (s.val.used : Int)) = (s.val.used : Int) := by rw [ho]; rfl
  rw [e, e2]
  refine goA ?_
  refine AFn.useA [1] (list_ok s.fd hm) fun _ => ?_
  refine goA ?_
  have he := usedTo_le (v := s.val) hB
  have hs := fun i (h : i < (lsN s.fd.now).length) => used_succ s.val (i := i) h
  have ha := used_all s.val
  refine AWP.loop (X := { i : Nat // i ≤ (lsN s.fd.now).length }) (fun i => [(0, .ptr 0 0), (3, AV.int .i64 (s.val.usedTo i.1)), (13, .iv (.sl 2 (lsN s.fd.now).length (enF (lsN s.fd.now)))), (14, AV.int .i64 (lsN s.fd.now).length), (15, AV.int .i64 i.1)]) (fun i => s.H) (fun i => (lsN s.fd.now).length - i.1) (⟨0, Nat.zero_le _⟩) ?_ fun i => AWP.go (S := sch22) (cfgOk _ _) (.of_eq (by kernel_rfl)) ?_
  ·exact Ent.mkA [some 0, some 1, some 2, some 3]
  ·obtain ⟨i, hi⟩ := i
   refine goA ?_
   refine ifdA (fun h1 => ?_) (fun h1 => ?_) <;> (try dsimp only at h1)
   ·have hlt : i < (lsN s.fd.now).length := by omega
    have h2 := hs i hlt
    have h3 := he (i + 1)
    have h4 : (i + 1) * 100000000 ≤ 1000 * 100000000 := Nat.mul_le_mul_right _ (by omega)
    refine goA ?_
    repeat' (refine And.intro ?_ ?_ <;> (refine goA ?_))
    all_goals
     rw [mfind_flM]
     simp -iota only [Int.toNat_natCast]
     have h2' : s.val.usedTo (i + 1) = s.val.usedTo i + fsz (vfs s.fs) ((lsN s.fd.now).getD i ([], 0)).2 := h2
     have hz := fsz_vfs s.fs ((lsN s.fd.now).getD i ([], 0)).2
     rw [hz] at h2'
     cases hf : s.fs.find? (fun p => decide (p.1 = ((lsN s.fd.now).getD i ([], 0)).2)) with
     | some p =>
       obtain ⟨n', b, f⟩ := p
       have hf0 := hf
       have hn' : n' = ((lsN s.fd.now).getD i ([], 0)).2 := by have := List.find?_some hf; simpa only [decide_eq_true_eq] using this
       rw [← hn'] at hf
       rw [hf0] at h2'
       simp only at h2'
       first
       | (intro y hy
          cases hy
          refine goA ?_
          refine AFn.useA [0, 1, 2, 3] (size_at s hn hf) fun _ => ?_
          refine goA ?_
          refine ⟨⟨i + 1, by omega⟩, Ent.mkA [some 0, some 1, some 2, some 3], ?_⟩
          show (lsN s.fd.now).length - (i + 1) < (lsN s.fd.now).length - i
          omega)
       | (intro hy; cases hy; done)
     | none =>
       rw [hf] at h2'
       simp only at h2'
       first
       | (intro y hy
          cases hy
          done)
       | (intro hy
          refine goA ?_
          refine AFn.useA [] (size_nil) fun _ => ?_
          refine goA ?_
          refine ⟨⟨i + 1, by omega⟩, Ent.mkA [some 0, some 1, some 2, some 3], ?_⟩
          show (lsN s.fd.now).length - (i + 1) < (lsN s.fd.now).length - i
          omega)
   ·have e3 : i = (lsN s.fd.now).length := by omega
    subst e3
    refine goA ?_
    refine ⟨_, _, Ent.mk' (e' := [(0, AV.int .i64 (s.val.used : Int))]) (H' := s.H) [some 0, some 1, some 2, some 3] (by kernel_rfl) ?_ ?_, (), rfl, rfl⟩
    ·exact ⟨AVE.int (by simp only [ha]), trivial⟩
    ·exact subC
end
end Go.Proofs.YtgfkepebfaiepaaGreatDoor.Ax
