/-
  Chapter 06: folders: Copy, Crash; calls.
-/
import Derived.Test.YteeifedpabcehaaFb
namespace Go.Proofs.Yteeifedpabcehaa.Ax
open Go.RowKit
set_option maxRecDepth 100000
def onAll (m : NM) (l : List Deed) : NM := l.foldl (fun m D => D.on m) m
theorem onAll_snoc (m : NM) (l : List Deed) (D : Deed) : onAll m (l ++ [D]) = D.on (onAll m l) := by simp [onAll]
theorem ds_next {A : List Deed} {i : Nat} (hi : i < A.length) : A.take (i + 1) = A.take i ++ [A.getD i default] := by
  rw [List.take_succ_eq_append_getElem hi]
  simp [List.getD, hi]
section
variable (f : FD)
def FD.keep (f : FD) (k : Int) : Nat := (min (max k 0) (f.ds.length : Int)).toNat
def FD.crash (f : FD) (k : Int) : FD := ⟨onAll f.safe (f.ds.take (f.keep k)), onAll f.safe (f.ds.take (f.keep k)), [], f.last⟩
theorem crash_ok (hl : f.ds.length ≤ 1000) (k : Int) : AFn Go.Proofs.Try.prog 17 [.ptr 0 0, AV.int .i64 k] (one f.H) (fun _ : Unit => AV.int .i64 0) (fun _ => one (f.crash k).H) := by
  refine ACall.fin ?_
  refine ACall.walkE (C := cfg 45 1) (cfgOk _ _) [] (fn := Go.Proofs.Try.f17) (by kernel_rfl) (by kernel_rfl) rfl (by kernel_rfl) (by kernel_rfl) rfl rfl (H1 := f.H) (fun _ _ => (HEnt.openOne (f.H) rfl rfl).ent) fun hlen hheap => ?_
  (conv => whnf); repeat ((first | (refine And.intro ?_ ?_; (focus ((repeat' (first | exact trivial | refine And.intro rfl ?_)); done))) | (refine And.intro ?_ ?_; (focus (first | omega | (dsimp -iota only; omega) | (simp -iota; omega) | (simp -iota; done) | decide)))); conv => whnf)
  refine AFn.use [0, 1, 2, 3] (none_in f) (by kernel_rfl) rfl (by repeat' first | exact trivial | refine ⟨rfl, ?_⟩) fun _ => ?_
  (conv => whnf); repeat ((first | (refine And.intro ?_ ?_; (focus ((repeat' (first | exact trivial | refine And.intro rfl ?_)); done))) | (refine And.intro ?_ ?_; (focus (first | omega | (dsimp -iota only; omega) | (simp -iota; omega) | (simp -iota; done) | decide)))); conv => whnf)
  refine AFn.use [1] (mclone_ok (smap un f.safe)) (by kernel_rfl) rfl (by repeat' first | exact trivial | refine ⟨rfl, ?_⟩) fun _ => ?_
  (conv => whnf); repeat ((first | (refine And.intro ?_ ?_; (focus ((repeat' (first | exact trivial | refine And.intro rfl ?_)); done))) | (refine And.intro ?_ ?_; (focus (first | omega | (dsimp -iota only; omega) | (simp -iota; omega) | (simp -iota; done) | decide)))); conv => whnf)
  have hkk : f.keep k ≤ f.ds.length := by unfold FD.keep; omega
  have hke : (min (max k 0) (f.ds.length : Int)) = (f.keep k : Nat) := by unfold FD.keep; omega
  rw [hke]
  (conv => whnf); repeat ((first | (refine And.intro ?_ ?_; (focus ((repeat' (first | exact trivial | refine And.intro rfl ?_)); done))) | (refine And.intro ?_ ?_; (focus (first | omega | (dsimp -iota only; omega) | (simp -iota; omega) | (simp -iota; done) | decide)))); conv => whnf)
  generalize hkn : f.keep k = n at *
  refine AWP.loop (X := { y : Nat // y ≤ n }) (fun y => [(0, .ptr 0 0), (30, .row 2 1 0 n), (31, AV.int .i64 n), (32, AV.int .i64 y.1)]) (fun y => ⟨4, [(0, .cells 65 [.mp 1, .mp 3, .row 2 1 0 f.ds.length, AV.int .u64 f.last]), (1, .map none (smap un f.safe)), (2, .rowc 80 1 f.ds.length (dF f.ds)), (3, .map none (smap un (onAll f.safe (f.ds.take y.1))))]⟩) (fun y => n - y.1) (⟨0, by omega⟩) ?_ fun y => AWP.go (S := []) (cfgOk _ _) (.of_eq (by kernel_rfl)) ?_
  · refine Ent.mk' [some 0, some 1, some 3, some 4] (by kernel_rfl) ⟨AVE.refl _, AVE.of_eq ?_, AVE.int (by simp), AVE.refl _, trivial⟩ (by (repeat' first | exact trivial | refine ⟨⟨_, rfl, ChE.refl _⟩, ?_⟩))
    show AV.row 3 1 (0 + Int.toNat 0) (((n : Nat) : Int).toNat - Int.toNat 0) = AV.row 3 1 0 n
    simp
  · obtain ⟨i, hi⟩ := y
    have hix : ((i : Nat) : Int).toNat = i := by simp
    (conv => whnf); repeat ((first | (refine And.intro ?_ ?_; (focus ((repeat' (first | exact trivial | refine And.intro rfl ?_)); done))) | (refine And.intro ?_ ?_; (focus (first | omega | (dsimp -iota only; omega) | (simp -iota; omega) | (simp -iota; done) | decide)))); conv => whnf)
    refine branchB_of (fun h => ?_) (fun h => ?_) <;> (first | replace h := not_t h | replace h := not_f h | skip) <;> (first | replace h := of_decide_eq_true h | replace h := of_decide_eq_false h | skip) <;> (first | replace h := Classical.not_not.1 h | skip) <;> (try dsimp only at h)
    · have hnx := ds_next (A := f.ds) (i := i) (by omega)
      (conv => whnf); repeat ((first | (refine And.intro ?_ ?_; (focus ((repeat' (first | exact trivial | refine And.intro rfl ?_)); done))) | (refine And.intro ?_ ?_; (focus (first | omega | (dsimp -iota only; omega) | (simp -iota; omega) | (simp -iota; done) | decide)))); conv => whnf)
      generalize hD : f.ds.getD (0 + ((i : Nat) : Int).toNat) default = D
      rw [hix, Nat.zero_add] at hD
      rw [hD] at hnx
      have hon : onAll f.safe (f.ds.take (i + 1)) = D.on (onAll f.safe (f.ds.take i)) := by rw [hnx, onAll_snoc]
      cases D with
      | mk x m =>
        (conv => whnf); repeat ((first | (refine And.intro ?_ ?_; (focus ((repeat' (first | exact trivial | refine And.intro rfl ?_)); done))) | (refine And.intro ?_ ?_; (focus (first | omega | (dsimp -iota only; omega) | (simp -iota; omega) | (simp -iota; done) | decide)))); conv => whnf)
        refine AFn.use [3] (mk_ok (onAll f.safe (f.ds.take i)) x m) (by kernel_rfl) rfl (by repeat' first | exact trivial | refine ⟨rfl, ?_⟩) fun _ => ?_
        (conv => whnf); repeat ((first | (refine And.intro ?_ ?_; (focus ((repeat' (first | exact trivial | refine And.intro rfl ?_)); done))) | (refine And.intro ?_ ?_; (focus (first | omega | (dsimp -iota only; omega) | (simp -iota; omega) | (simp -iota; done) | decide)))); conv => whnf)
        refine ⟨⟨i + 1, by omega⟩, Ent.mk' [some 0, some 1, some 2, some 3] (by kernel_rfl) (by repeat' first | exact trivial | refine And.intro (AVE.refl _) ?_ | refine And.intro (AVE.int (by first | rfl | omega | (dsimp only; omega) | (simp -iota; omega) | (simp -iota; done))) ?_ | refine And.intro (AVE.bool (by assumption)) ?_ | refine And.intro (AVE.len (by first | rfl | omega | (dsimp only; omega) | (simp -iota; omega) | (simp -iota; done))) ?_) ?_, ?_⟩
        · exact ⟨⟨_, rfl, ChE.refl _⟩, ⟨_, rfl, ChE.refl _⟩, ⟨_, rfl, ChE.refl _⟩, ⟨_, rfl, ChE.of_eq (by rw [hon]; rfl)⟩, trivial⟩
        · show n - (i + 1) < n - i
          omega
      | mv a b m =>
        (conv => whnf); repeat ((first | (refine And.intro ?_ ?_; (focus ((repeat' (first | exact trivial | refine And.intro rfl ?_)); done))) | (refine And.intro ?_ ?_; (focus (first | omega | (dsimp -iota only; omega) | (simp -iota; omega) | (simp -iota; done) | decide)))); conv => whnf)
        refine AFn.use [3] (mv_ok (onAll f.safe (f.ds.take i)) a b m) (by kernel_rfl) rfl (by repeat' first | exact trivial | refine ⟨rfl, ?_⟩) fun _ => ?_
        (conv => whnf); repeat ((first | (refine And.intro ?_ ?_; (focus ((repeat' (first | exact trivial | refine And.intro rfl ?_)); done))) | (refine And.intro ?_ ?_; (focus (first | omega | (dsimp -iota only; omega) | (simp -iota; omega) | (simp -iota; done) | decide)))); conv => whnf)
        refine ⟨⟨i + 1, by omega⟩, Ent.mk' [some 0, some 1, some 2, some 3] (by kernel_rfl) (by repeat' first | exact trivial | refine And.intro (AVE.refl _) ?_ | refine And.intro (AVE.int (by first | rfl | omega | (dsimp only; omega) | (simp -iota; omega) | (simp -iota; done))) ?_ | refine And.intro (AVE.bool (by assumption)) ?_ | refine And.intro (AVE.len (by first | rfl | omega | (dsimp only; omega) | (simp -iota; omega) | (simp -iota; done))) ?_) ?_, ?_⟩
        · exact ⟨⟨_, rfl, ChE.refl _⟩, ⟨_, rfl, ChE.refl _⟩, ⟨_, rfl, ChE.refl _⟩, ⟨_, rfl, ChE.of_eq (by rw [hon]; rfl)⟩, trivial⟩
        · show n - (i + 1) < n - i
          omega
      | rm x =>
        (conv => whnf); repeat ((first | (refine And.intro ?_ ?_; (focus ((repeat' (first | exact trivial | refine And.intro rfl ?_)); done))) | (refine And.intro ?_ ?_; (focus (first | omega | (dsimp -iota only; omega) | (simp -iota; omega) | (simp -iota; done) | decide)))); conv => whnf)
        refine AFn.use [3] (rm_ok (onAll f.safe (f.ds.take i)) x) (by kernel_rfl) rfl (by repeat' first | exact trivial | refine ⟨rfl, ?_⟩) fun _ => ?_
        (conv => whnf); repeat ((first | (refine And.intro ?_ ?_; (focus ((repeat' (first | exact trivial | refine And.intro rfl ?_)); done))) | (refine And.intro ?_ ?_; (focus (first | omega | (dsimp -iota only; omega) | (simp -iota; omega) | (simp -iota; done) | decide)))); conv => whnf)
        refine ⟨⟨i + 1, by omega⟩, Ent.mk' [some 0, some 1, some 2, some 3] (by kernel_rfl) (by repeat' first | exact trivial | refine And.intro (AVE.refl _) ?_ | refine And.intro (AVE.int (by first | rfl | omega | (dsimp only; omega) | (simp -iota; omega) | (simp -iota; done))) ?_ | refine And.intro (AVE.bool (by assumption)) ?_ | refine And.intro (AVE.len (by first | rfl | omega | (dsimp only; omega) | (simp -iota; omega) | (simp -iota; done))) ?_) ?_, ?_⟩
        · exact ⟨⟨_, rfl, ChE.refl _⟩, ⟨_, rfl, ChE.refl _⟩, ⟨_, rfl, ChE.refl _⟩, ⟨_, rfl, ChE.of_eq (by rw [hon]; rfl)⟩, trivial⟩
        · show n - (i + 1) < n - i
          omega
    · have hin : i = n := by omega
      subst hin
      have hcr : f.crash k = FD.synced ⟨f.safe, onAll f.safe (f.ds.take i), f.ds, f.last⟩ := by
        unfold FD.crash FD.synced
        rw [hkn]
      rw [hcr]
      (conv => whnf); repeat ((first | (refine And.intro ?_ ?_; (focus ((repeat' (first | exact trivial | refine And.intro rfl ?_)); done))) | (refine And.intro ?_ ?_; (focus (first | omega | (dsimp -iota only; omega) | (simp -iota; omega) | (simp -iota; done) | decide)))); conv => whnf)
      refine ACall.hent (HEnt.close [0, 1, 3, 2] 0 (FD.H ⟨f.safe, onAll f.safe (f.ds.take i), f.ds, f.last⟩) ?_ ?_) ?_
      · kernel_rfl
      · repeat' first | exact trivial | refine ⟨rfl, ?_⟩
      refine AFn.use [0] (sync_ok ⟨f.safe, onAll f.safe (f.ds.take i), f.ds, f.last⟩) (by kernel_rfl) rfl (by repeat' first | exact trivial | refine ⟨rfl, ?_⟩) fun _ => ?_
      refine ⟨_, HEnt.refl _, ?_⟩
      (conv => whnf); repeat ((first | (refine And.intro ?_ ?_; (focus ((repeat' (first | exact trivial | refine And.intro rfl ?_)); done))) | (refine And.intro ?_ ?_; (focus (first | omega | (dsimp -iota only; omega) | (simp -iota; omega) | (simp -iota; done) | decide)))); conv => whnf)
      refine ⟨_, _, Ent.mk' (e' := [(0, AV.int .i64 0)]) (H' := one (FD.synced ⟨f.safe, onAll f.safe (f.ds.take i), f.ds, f.last⟩).H) [some 0] (by kernel_rfl) ?_ ?_, (), rfl, rfl⟩
      · exact ⟨AVE.refl _, trivial⟩
      · (repeat' first | exact trivial | refine ⟨⟨_, rfl, ChE.refl _⟩, ?_⟩)
noncomputable def cfgC (N b : Nat) : Cfg := { P := Go.Proofs.Try.prog, T := tt, wr := false, N := N, pure := [33, 39], base := b, frz := frzF }
theorem cfgCOk (N b : Nat) : (cfgC N b).Ok := ⟨ttOk, ttBytes, by kernel_rfl⟩
theorem copy_ok (hl : f.ds.length ≤ 1000) : AFn Go.Proofs.Try.prog 16 [.ptr 0 0] (one f.H) (fun _ : Unit => .ptr 1 0) (fun _ => ⟨2, [(0, .sem (Nest f.H)), (1, .sem (Nest f.H))]⟩) := by
  refine ACall.fin ?_
  refine ACall.walkE (C := cfgC 26 1) (cfgCOk _ _) sch16 (fn := Go.Proofs.Try.f16) (by kernel_rfl) (by kernel_rfl) rfl (by kernel_rfl) (by kernel_rfl) rfl rfl (H1 := f.H) (fun _ _ => (HEnt.openOne (f.H) rfl rfl).ent) fun hlen hheap => ?_
  (conv => whnf); repeat ((first | (refine And.intro ?_ ?_; (focus ((repeat' (first | exact trivial | refine And.intro rfl ?_)); done))) | (refine And.intro ?_ ?_; (focus (first | omega | (dsimp -iota only; omega) | (simp -iota; omega) | (simp -iota; done) | decide)))); conv => whnf)
  refine AFn.use [0, 1, 2, 3] (none_in f) (by kernel_rfl) rfl (by repeat' first | exact trivial | refine ⟨rfl, ?_⟩) fun _ => ?_
  (conv => whnf); repeat ((first | (refine And.intro ?_ ?_; (focus ((repeat' (first | exact trivial | refine And.intro rfl ?_)); done))) | (refine And.intro ?_ ?_; (focus (first | omega | (dsimp -iota only; omega) | (simp -iota; omega) | (simp -iota; done) | decide)))); conv => whnf)
  refine AFn.use [1] (mclone_ok (smap un f.safe)) (by kernel_rfl) rfl (by repeat' first | exact trivial | refine ⟨rfl, ?_⟩) fun _ => ?_
  (conv => whnf); repeat ((first | (refine And.intro ?_ ?_; (focus ((repeat' (first | exact trivial | refine And.intro rfl ?_)); done))) | (refine And.intro ?_ ?_; (focus (first | omega | (dsimp -iota only; omega) | (simp -iota; omega) | (simp -iota; done) | decide)))); conv => whnf)
  refine AFn.use [2] (mclone_ok (smap un f.now)) (by kernel_rfl) rfl (by repeat' first | exact trivial | refine ⟨rfl, ?_⟩) fun _ => ?_
  (conv => whnf); repeat ((first | (refine And.intro ?_ ?_; (focus ((repeat' (first | exact trivial | refine And.intro rfl ?_)); done))) | (refine And.intro ?_ ?_; (focus (first | omega | (dsimp -iota only; omega) | (simp -iota; omega) | (simp -iota; done) | decide)))); conv => whnf)
  refine AFn.use [3] (dclone_ok f.ds.length hl (dF f.ds)) (by kernel_rfl) rfl (by repeat' first | exact trivial | refine ⟨rfl, ?_⟩) fun _ => ?_
  (conv => whnf); repeat ((first | (refine And.intro ?_ ?_; (focus ((repeat' (first | exact trivial | refine And.intro rfl ?_)); done))) | (refine And.intro ?_ ?_; (focus (first | omega | (dsimp -iota only; omega) | (simp -iota; omega) | (simp -iota; done) | decide)))); conv => whnf)
  trace_state
  refine ⟨_, _, Ent.trans (HEnt.ent (HEnt.trans (HEnt.close [0, 1, 2, 3] 0 f.H ?_ ?_) (HEnt.close [7, 4, 5, 6] 7 f.H ?_ ?_))) (Ent.mk' (e' := [(0, .ptr 1 0)]) (H' := ⟨2, [(0, .sem (Nest f.H)), (1, .sem (Nest f.H))]⟩) [some 0, some 7] ?_ ?_ ?_), (), rfl, rfl⟩
  · kernel_rfl
  · repeat' first | exact trivial | refine ⟨rfl, ?_⟩
  · kernel_rfl
  · repeat' first | exact trivial | refine ⟨rfl, ?_⟩
  · kernel_rfl
  · exact ⟨AVE.refl _, trivial⟩
  · (repeat' first | exact trivial | refine ⟨⟨_, rfl, ChE.refl _⟩, ?_⟩)
end
end Go.Proofs.Yteeifedpabcehaa.Ax
