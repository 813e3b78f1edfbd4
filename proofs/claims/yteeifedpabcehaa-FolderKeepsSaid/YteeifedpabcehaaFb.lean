/-
  Chapter 06: folders: Create, Rename, Remove.
-/
import Derived.Test.YteeifedpabcehaaFa
namespace Go.Proofs.Yteeifedpabcehaa.Ax
open Go.RowKit
set_option maxRecDepth 100000
section
variable (f : FD)
def FD.createE (f : FD) (x : List UInt8) : Int := bif !mayB x then 1 else bif (afind f.now x).isSome then 9 else bif decide (256 ≤ f.now.length) then 7 else 0
def FD.createN (f : FD) (x : List UInt8) : Nat := if f.createE x = 0 then f.last + 1 else 0
def FD.create (f : FD) (x : List UInt8) : FD := if f.createE x = 0 then FD.did ⟨f.safe, f.now, f.ds, f.last + 1⟩ (.mk x (f.last + 1)) else f
theorem create_no {x : List UInt8} (h : f.createE x ≠ 0) : f.createN x = 0 ∧ f.create x = f := ⟨if_neg h, if_neg h⟩
theorem create_ok (hl : f.ds.length ≤ 1000) (hla : f.last ≤ 1000) (x : List UInt8) : AFn Go.Proofs.Try.prog 19 [.ptr 0 0, .str x] (one f.H) (fun _ : Unit => .tup [AV.int .u64 (f.createN x), AV.int .i64 (f.createE x)]) (fun _ => one (f.create x).H) := by
  have hlm : (smap un f.now).length = f.now.length := smap_length _ _
  refine ACall.fin ?_
  refine ACall.walkE (C := cfg 48 1) (cfgOk _ _) sch19 (fn := Go.Proofs.Try.f19) (by kernel_rfl) (by kernel_rfl) rfl (by kernel_rfl) (by kernel_rfl) rfl rfl (H1 := f.H) (fun _ _ => (HEnt.openOne (f.H) rfl rfl).ent) fun hlen hheap => ?_
  (conv => whnf); repeat ((first | (refine And.intro ?_ ?_; (focus ((repeat' (first | exact trivial | refine And.intro rfl ?_)); done))) | (refine And.intro ?_ ?_; (focus (first | omega | (dsimp -iota only; omega) | (simp -iota; omega) | (simp -iota; done) | decide)))); conv => whnf)
  refine AFn.use [0, 1, 2, 3] (none_in f) (by kernel_rfl) rfl (by repeat' first | exact trivial | refine ⟨rfl, ?_⟩) fun _ => ?_
  (conv => whnf); repeat ((first | (refine And.intro ?_ ?_; (focus ((repeat' (first | exact trivial | refine And.intro rfl ?_)); done))) | (refine And.intro ?_ ?_; (focus (first | omega | (dsimp -iota only; omega) | (simp -iota; omega) | (simp -iota; done) | decide)))); conv => whnf)
  rw [mfind_smap]
  refine ⟨fun y hy => ?_, fun hy => ?_⟩
  · obtain ⟨z, hz, hz2⟩ := Option.map_eq_some_iff.1 hy
    obtain ⟨p, hp, rfl⟩ := Option.map_eq_some_iff.1 hz
    subst hz2
    (conv => whnf); repeat ((first | (refine And.intro ?_ ?_; (focus ((repeat' (first | exact trivial | refine And.intro rfl ?_)); done))) | (refine And.intro ?_ ?_; (focus (first | omega | (dsimp -iota only; omega) | (simp -iota; omega) | (simp -iota; done) | decide)))); conv => whnf)
    refine AFn.use [] (may_ok x) (by kernel_rfl) rfl (by repeat' first | exact trivial | refine ⟨rfl, ?_⟩) fun _ => ?_
    (conv => whnf); repeat ((first | (refine And.intro ?_ ?_; (focus ((repeat' (first | exact trivial | refine And.intro rfl ?_)); done))) | (refine And.intro ?_ ?_; (focus (first | omega | (dsimp -iota only; omega) | (simp -iota; omega) | (simp -iota; done) | decide)))); conv => whnf)
    cases hk : mayB x with
    | false =>
      have ha : f.createE x = 1 := by simp [FD.createE, hk]
      obtain ⟨e1, e2⟩ := create_no f (x := x) (by rw [ha]; decide)
      rw [e1, e2, ha]
      (conv => whnf); repeat ((first | (refine And.intro ?_ ?_; (focus ((repeat' (first | exact trivial | refine And.intro rfl ?_)); done))) | (refine And.intro ?_ ?_; (focus (first | omega | (dsimp -iota only; omega) | (simp -iota; omega) | (simp -iota; done) | decide)))); conv => whnf)
      refine ⟨_, _, Ent.shutAt (r2 := .tup [AV.int .u64 0, AV.int .i64 1]) [some 0, some 1, some 2, some 3] (f.H) rfl (by kernel_rfl) (AVE.of_eq ?_) ?_ (by kernel_rfl) (by kernel_rfl) (by repeat' first | exact trivial | refine ⟨rfl, ?_⟩) rfl, (), ?_, ?_⟩
      all_goals first | rfl | (repeat' first | exact trivial | refine ⟨⟨_, rfl, ChE.refl _⟩, ?_⟩)
    | true =>
      have ha : f.createE x = 9 := by simp [FD.createE, hk, hp]
      obtain ⟨e1, e2⟩ := create_no f (x := x) (by rw [ha]; decide)
      rw [e1, e2, ha]
      (conv => whnf); repeat ((first | (refine And.intro ?_ ?_; (focus ((repeat' (first | exact trivial | refine And.intro rfl ?_)); done))) | (refine And.intro ?_ ?_; (focus (first | omega | (dsimp -iota only; omega) | (simp -iota; omega) | (simp -iota; done) | decide)))); conv => whnf)
      refine ⟨_, _, Ent.shutAt (r2 := .tup [AV.int .u64 0, AV.int .i64 9]) [some 0, some 1, some 2, some 3] (f.H) rfl (by kernel_rfl) (AVE.of_eq ?_) ?_ (by kernel_rfl) (by kernel_rfl) (by repeat' first | exact trivial | refine ⟨rfl, ?_⟩) rfl, (), ?_, ?_⟩
      all_goals first | rfl | (repeat' first | exact trivial | refine ⟨⟨_, rfl, ChE.refl _⟩, ?_⟩)
  · have hy := Option.map_eq_none_iff.1 (Option.map_eq_none_iff.1 hy)
    (conv => whnf); repeat ((first | (refine And.intro ?_ ?_; (focus ((repeat' (first | exact trivial | refine And.intro rfl ?_)); done))) | (refine And.intro ?_ ?_; (focus (first | omega | (dsimp -iota only; omega) | (simp -iota; omega) | (simp -iota; done) | decide)))); conv => whnf)
    refine AFn.use [] (may_ok x) (by kernel_rfl) rfl (by repeat' first | exact trivial | refine ⟨rfl, ?_⟩) fun _ => ?_
    (conv => whnf); repeat ((first | (refine And.intro ?_ ?_; (focus ((repeat' (first | exact trivial | refine And.intro rfl ?_)); done))) | (refine And.intro ?_ ?_; (focus (first | omega | (dsimp -iota only; omega) | (simp -iota; omega) | (simp -iota; done) | decide)))); conv => whnf)
    cases hk : mayB x with
    | false =>
      have ha : f.createE x = 1 := by simp [FD.createE, hk]
      obtain ⟨e1, e2⟩ := create_no f (x := x) (by rw [ha]; decide)
      rw [e1, e2, ha]
      (conv => whnf); repeat ((first | (refine And.intro ?_ ?_; (focus ((repeat' (first | exact trivial | refine And.intro rfl ?_)); done))) | (refine And.intro ?_ ?_; (focus (first | omega | (dsimp -iota only; omega) | (simp -iota; omega) | (simp -iota; done) | decide)))); conv => whnf)
      refine ⟨_, _, Ent.shutAt (r2 := .tup [AV.int .u64 0, AV.int .i64 1]) [some 0, some 1, some 2, some 3] (f.H) rfl (by kernel_rfl) (AVE.of_eq ?_) ?_ (by kernel_rfl) (by kernel_rfl) (by repeat' first | exact trivial | refine ⟨rfl, ?_⟩) rfl, (), ?_, ?_⟩
      all_goals first | rfl | (repeat' first | exact trivial | refine ⟨⟨_, rfl, ChE.refl _⟩, ?_⟩)
    | true =>
      (conv => whnf); repeat ((first | (refine And.intro ?_ ?_; (focus ((repeat' (first | exact trivial | refine And.intro rfl ?_)); done))) | (refine And.intro ?_ ?_; (focus (first | omega | (dsimp -iota only; omega) | (simp -iota; omega) | (simp -iota; done) | decide)))); conv => whnf)
      refine branchB_of (fun g => ?_) (fun g => ?_) <;> (first | replace g := not_t g | replace g := not_f g | skip) <;> (first | replace g := of_decide_eq_true g | replace g := of_decide_eq_false g | skip) <;> (first | replace g := Classical.not_not.1 g | skip) <;> (try dsimp only at g)
      · have ha : f.createE x = 7 := by simp [FD.createE, hk, hy, show 256 ≤ f.now.length from by omega]
        obtain ⟨e1, e2⟩ := create_no f (x := x) (by rw [ha]; decide)
        rw [e1, e2, ha]
        (conv => whnf); repeat ((first | (refine And.intro ?_ ?_; (focus ((repeat' (first | exact trivial | refine And.intro rfl ?_)); done))) | (refine And.intro ?_ ?_; (focus (first | omega | (dsimp -iota only; omega) | (simp -iota; omega) | (simp -iota; done) | decide)))); conv => whnf)
        refine ⟨_, _, Ent.shutAt (r2 := .tup [AV.int .u64 0, AV.int .i64 7]) [some 0, some 1, some 2, some 3] (f.H) rfl (by kernel_rfl) (AVE.of_eq ?_) ?_ (by kernel_rfl) (by kernel_rfl) (by repeat' first | exact trivial | refine ⟨rfl, ?_⟩) rfl, (), ?_, ?_⟩
        all_goals first | rfl | (repeat' first | exact trivial | refine ⟨⟨_, rfl, ChE.refl _⟩, ?_⟩)
      · have ha : f.createE x = 0 := by simp [FD.createE, hk, hy, show ¬ 256 ≤ f.now.length from by omega]
        have e1 : f.createN x = f.last + 1 := if_pos ha
        have e2 : f.create x = FD.did ⟨f.safe, f.now, f.ds, f.last + 1⟩ (.mk x (f.last + 1)) := if_pos ha
        rw [e1, e2, ha]
        (conv => whnf); repeat ((first | (refine And.intro ?_ ?_; (focus ((repeat' (first | exact trivial | refine And.intro rfl ?_)); done))) | (refine And.intro ?_ ?_; (focus (first | omega | (dsimp -iota only; omega) | (simp -iota; omega) | (simp -iota; done) | decide)))); conv => whnf)
        refine ACall.hent (HEnt.close [0, 1, 2, 3] 0 (FD.H ⟨f.safe, f.now, f.ds, f.last + 1⟩) ?_ ?_) ?_
        · kernel_rfl
        · repeat' first | exact trivial | refine ⟨rfl, ?_⟩
        refine AFn.use [0] (do_ok ⟨f.safe, f.now, f.ds, f.last + 1⟩ (.mk x (f.last + 1)) hl) (by kernel_rfl) rfl (by repeat' first | exact trivial | refine ⟨rfl, ?_⟩) fun _ => ?_
        refine ⟨_, HEnt.refl _, ?_⟩
        (conv => whnf); repeat ((first | (refine And.intro ?_ ?_; (focus ((repeat' (first | exact trivial | refine And.intro rfl ?_)); done))) | (refine And.intro ?_ ?_; (focus (first | omega | (dsimp -iota only; omega) | (simp -iota; omega) | (simp -iota; done) | decide)))); conv => whnf)
        refine ⟨_, _, Ent.mk' (e' := [(0, .tup [AV.int .u64 (f.last + 1 : Nat), AV.int .i64 0])]) (H' := one (FD.did ⟨f.safe, f.now, f.ds, f.last + 1⟩ (.mk x (f.last + 1))).H) [some 0] (by kernel_rfl) ?_ ?_, (), rfl, rfl⟩
        · exact ⟨AVE.refl _, trivial⟩
        · (repeat' first | exact trivial | refine ⟨⟨_, rfl, ChE.refl _⟩, ?_⟩)
def FD.remE (f : FD) (x : List UInt8) : Int := bif !mayB x then 1 else bif (afind f.now x).isSome then 0 else 6
def FD.rem (f : FD) (x : List UInt8) : FD := if f.remE x = 0 then f.did (.rm x) else f
theorem remove_ok (hl : f.ds.length ≤ 1000) (x : List UInt8) : AFn Go.Proofs.Try.prog 20 [.ptr 0 0, .str x] (one f.H) (fun _ : Unit => AV.int .i64 (f.remE x)) (fun _ => one (f.rem x).H) := by
  refine ACall.fin ?_
  refine ACall.walkE (C := cfg 28 1) (cfgOk _ _) sch20 (fn := Go.Proofs.Try.f20) (by kernel_rfl) (by kernel_rfl) rfl (by kernel_rfl) (by kernel_rfl) rfl rfl (H1 := f.H) (fun _ _ => (HEnt.openOne (f.H) rfl rfl).ent) fun hlen hheap => ?_
  (conv => whnf); repeat ((first | (refine And.intro ?_ ?_; (focus ((repeat' (first | exact trivial | refine And.intro rfl ?_)); done))) | (refine And.intro ?_ ?_; (focus (first | omega | (dsimp -iota only; omega) | (simp -iota; omega) | (simp -iota; done) | decide)))); conv => whnf)
  refine AFn.use [0, 1, 2, 3] (none_in f) (by kernel_rfl) rfl (by repeat' first | exact trivial | refine ⟨rfl, ?_⟩) fun _ => ?_
  (conv => whnf); repeat ((first | (refine And.intro ?_ ?_; (focus ((repeat' (first | exact trivial | refine And.intro rfl ?_)); done))) | (refine And.intro ?_ ?_; (focus (first | omega | (dsimp -iota only; omega) | (simp -iota; omega) | (simp -iota; done) | decide)))); conv => whnf)
  rw [mfind_smap]
  refine ⟨fun y hy => ?_, fun hy => ?_⟩
  · obtain ⟨z, hz, hz2⟩ := Option.map_eq_some_iff.1 hy
    obtain ⟨p, hp, rfl⟩ := Option.map_eq_some_iff.1 hz
    subst hz2
    (conv => whnf); repeat ((first | (refine And.intro ?_ ?_; (focus ((repeat' (first | exact trivial | refine And.intro rfl ?_)); done))) | (refine And.intro ?_ ?_; (focus (first | omega | (dsimp -iota only; omega) | (simp -iota; omega) | (simp -iota; done) | decide)))); conv => whnf)
    refine AFn.use [] (may_ok x) (by kernel_rfl) rfl (by repeat' first | exact trivial | refine ⟨rfl, ?_⟩) fun _ => ?_
    (conv => whnf); repeat ((first | (refine And.intro ?_ ?_; (focus ((repeat' (first | exact trivial | refine And.intro rfl ?_)); done))) | (refine And.intro ?_ ?_; (focus (first | omega | (dsimp -iota only; omega) | (simp -iota; omega) | (simp -iota; done) | decide)))); conv => whnf)
    cases hk : mayB x with
    | false =>
      have ha : f.remE x = 1 := by simp [FD.remE, hk]
      have e2 : f.rem x = f := if_neg (by rw [ha]; decide)
      rw [e2, ha]
      (conv => whnf); repeat ((first | (refine And.intro ?_ ?_; (focus ((repeat' (first | exact trivial | refine And.intro rfl ?_)); done))) | (refine And.intro ?_ ?_; (focus (first | omega | (dsimp -iota only; omega) | (simp -iota; omega) | (simp -iota; done) | decide)))); conv => whnf)
      refine ⟨_, _, Ent.shutAt (r2 := AV.int .i64 1) [some 0, some 1, some 2, some 3] (f.H) rfl (by kernel_rfl) (AVE.of_eq ?_) ?_ (by kernel_rfl) (by kernel_rfl) (by repeat' first | exact trivial | refine ⟨rfl, ?_⟩) rfl, (), ?_, ?_⟩
      all_goals first | rfl | (repeat' first | exact trivial | refine ⟨⟨_, rfl, ChE.refl _⟩, ?_⟩)
    | true =>
      have ha : f.remE x = 0 := by simp [FD.remE, hk, hp]
      have e2 : f.rem x = f.did (.rm x) := if_pos ha
      rw [e2, ha]
      (conv => whnf); repeat ((first | (refine And.intro ?_ ?_; (focus ((repeat' (first | exact trivial | refine And.intro rfl ?_)); done))) | (refine And.intro ?_ ?_; (focus (first | omega | (dsimp -iota only; omega) | (simp -iota; omega) | (simp -iota; done) | decide)))); conv => whnf)
      refine ACall.hent (HEnt.close [0, 1, 2, 3] 0 f.H ?_ ?_) ?_
      · kernel_rfl
      · repeat' first | exact trivial | refine ⟨rfl, ?_⟩
      refine AFn.use [0] (do_ok f (.rm x) hl) (by kernel_rfl) rfl (by repeat' first | exact trivial | refine ⟨rfl, ?_⟩) fun _ => ?_
      refine ⟨_, HEnt.refl _, ?_⟩
      (conv => whnf); repeat ((first | (refine And.intro ?_ ?_; (focus ((repeat' (first | exact trivial | refine And.intro rfl ?_)); done))) | (refine And.intro ?_ ?_; (focus (first | omega | (dsimp -iota only; omega) | (simp -iota; omega) | (simp -iota; done) | decide)))); conv => whnf)
      refine ⟨_, _, Ent.mk' (e' := [(0, AV.int .i64 0)]) (H' := one (f.did (.rm x)).H) [some 0] (by kernel_rfl) ?_ ?_, (), rfl, rfl⟩
      · exact ⟨AVE.refl _, trivial⟩
      · (repeat' first | exact trivial | refine ⟨⟨_, rfl, ChE.refl _⟩, ?_⟩)
  · have hy := Option.map_eq_none_iff.1 (Option.map_eq_none_iff.1 hy)
    (conv => whnf); repeat ((first | (refine And.intro ?_ ?_; (focus ((repeat' (first | exact trivial | refine And.intro rfl ?_)); done))) | (refine And.intro ?_ ?_; (focus (first | omega | (dsimp -iota only; omega) | (simp -iota; omega) | (simp -iota; done) | decide)))); conv => whnf)
    refine AFn.use [] (may_ok x) (by kernel_rfl) rfl (by repeat' first | exact trivial | refine ⟨rfl, ?_⟩) fun _ => ?_
    (conv => whnf); repeat ((first | (refine And.intro ?_ ?_; (focus ((repeat' (first | exact trivial | refine And.intro rfl ?_)); done))) | (refine And.intro ?_ ?_; (focus (first | omega | (dsimp -iota only; omega) | (simp -iota; omega) | (simp -iota; done) | decide)))); conv => whnf)
    cases hk : mayB x with
    | false =>
      have ha : f.remE x = 1 := by simp [FD.remE, hk]
      have e2 : f.rem x = f := if_neg (by rw [ha]; decide)
      rw [e2, ha]
      (conv => whnf); repeat ((first | (refine And.intro ?_ ?_; (focus ((repeat' (first | exact trivial | refine And.intro rfl ?_)); done))) | (refine And.intro ?_ ?_; (focus (first | omega | (dsimp -iota only; omega) | (simp -iota; omega) | (simp -iota; done) | decide)))); conv => whnf)
      refine ⟨_, _, Ent.shutAt (r2 := AV.int .i64 1) [some 0, some 1, some 2, some 3] (f.H) rfl (by kernel_rfl) (AVE.of_eq ?_) ?_ (by kernel_rfl) (by kernel_rfl) (by repeat' first | exact trivial | refine ⟨rfl, ?_⟩) rfl, (), ?_, ?_⟩
      all_goals first | rfl | (repeat' first | exact trivial | refine ⟨⟨_, rfl, ChE.refl _⟩, ?_⟩)
    | true =>
      have ha : f.remE x = 6 := by simp [FD.remE, hk, hy]
      have e2 : f.rem x = f := if_neg (by rw [ha]; decide)
      rw [e2, ha]
      (conv => whnf); repeat ((first | (refine And.intro ?_ ?_; (focus ((repeat' (first | exact trivial | refine And.intro rfl ?_)); done))) | (refine And.intro ?_ ?_; (focus (first | omega | (dsimp -iota only; omega) | (simp -iota; omega) | (simp -iota; done) | decide)))); conv => whnf)
      refine ⟨_, _, Ent.shutAt (r2 := AV.int .i64 6) [some 0, some 1, some 2, some 3] (f.H) rfl (by kernel_rfl) (AVE.of_eq ?_) ?_ (by kernel_rfl) (by kernel_rfl) (by repeat' first | exact trivial | refine ⟨rfl, ?_⟩) rfl, (), ?_, ?_⟩
      all_goals first | rfl | (repeat' first | exact trivial | refine ⟨⟨_, rfl, ChE.refl _⟩, ?_⟩)
def FD.renE (f : FD) (a b : List UInt8) : Int := bif !(mayB a && mayB b) then 1 else bif (afind f.now a).isSome then 0 else 6
def FD.ren (f : FD) (a b : List UInt8) : FD := if f.renE a b = 0 ∧ a ≠ b then f.did (.mv a b (f.findN a)) else f
theorem rename_ok (hl : f.ds.length ≤ 1000) (a b : List UInt8) : AFn Go.Proofs.Try.prog 28 [.ptr 0 0, .str a, .str b] (one f.H) (fun _ : Unit => AV.int .i64 (f.renE a b)) (fun _ => one (f.ren a b).H) := by
  refine ACall.fin ?_
  refine ACall.walkE (C := cfg 39 1) (cfgOk _ _) sch28 (fn := Go.Proofs.Try.f28) (by kernel_rfl) (by kernel_rfl) rfl (by kernel_rfl) (by kernel_rfl) rfl rfl (H1 := f.H) (fun _ _ => (HEnt.openOne (f.H) rfl rfl).ent) fun hlen hheap => ?_
  (conv => whnf); repeat ((first | (refine And.intro ?_ ?_; (focus ((repeat' (first | exact trivial | refine And.intro rfl ?_)); done))) | (refine And.intro ?_ ?_; (focus (first | omega | (dsimp -iota only; omega) | (simp -iota; omega) | (simp -iota; done) | decide)))); conv => whnf)
  refine AFn.use [0, 1, 2, 3] (none_in f) (by kernel_rfl) rfl (by repeat' first | exact trivial | refine ⟨rfl, ?_⟩) fun _ => ?_
  (conv => whnf); repeat ((first | (refine And.intro ?_ ?_; (focus ((repeat' (first | exact trivial | refine And.intro rfl ?_)); done))) | (refine And.intro ?_ ?_; (focus (first | omega | (dsimp -iota only; omega) | (simp -iota; omega) | (simp -iota; done) | decide)))); conv => whnf)
  rw [mfind_smap]
  refine ⟨fun y hy => ?_, fun hy => ?_⟩
  · obtain ⟨z, hz, hz2⟩ := Option.map_eq_some_iff.1 hy
    obtain ⟨p, hp, rfl⟩ := Option.map_eq_some_iff.1 hz
    subst hz2
    (conv => whnf); repeat ((first | (refine And.intro ?_ ?_; (focus ((repeat' (first | exact trivial | refine And.intro rfl ?_)); done))) | (refine And.intro ?_ ?_; (focus (first | omega | (dsimp -iota only; omega) | (simp -iota; omega) | (simp -iota; done) | decide)))); conv => whnf)
    refine AFn.use [] (may_ok a) (by kernel_rfl) rfl (by repeat' first | exact trivial | refine ⟨rfl, ?_⟩) fun _ => ?_
    (conv => whnf); repeat ((first | (refine And.intro ?_ ?_; (focus ((repeat' (first | exact trivial | refine And.intro rfl ?_)); done))) | (refine And.intro ?_ ?_; (focus (first | omega | (dsimp -iota only; omega) | (simp -iota; omega) | (simp -iota; done) | decide)))); conv => whnf)
    cases hka : mayB a with
    | false =>
      have ha : f.renE a b = 1 := by simp [FD.renE, hka]
      have e2 : f.ren a b = f := if_neg (by rw [ha]; simp)
      rw [e2, ha]
      (conv => whnf); repeat ((first | (refine And.intro ?_ ?_; (focus ((repeat' (first | exact trivial | refine And.intro rfl ?_)); done))) | (refine And.intro ?_ ?_; (focus (first | omega | (dsimp -iota only; omega) | (simp -iota; omega) | (simp -iota; done) | decide)))); conv => whnf)
      refine ⟨_, _, Ent.shutAt (r2 := AV.int .i64 1) [some 0, some 1, some 2, some 3] (f.H) rfl (by kernel_rfl) (AVE.of_eq ?_) ?_ (by kernel_rfl) (by kernel_rfl) (by repeat' first | exact trivial | refine ⟨rfl, ?_⟩) rfl, (), ?_, ?_⟩
      all_goals first | rfl | (repeat' first | exact trivial | refine ⟨⟨_, rfl, ChE.refl _⟩, ?_⟩)
    | true =>
      (conv => whnf); repeat ((first | (refine And.intro ?_ ?_; (focus ((repeat' (first | exact trivial | refine And.intro rfl ?_)); done))) | (refine And.intro ?_ ?_; (focus (first | omega | (dsimp -iota only; omega) | (simp -iota; omega) | (simp -iota; done) | decide)))); conv => whnf)
      refine AFn.use [] (may_ok b) (by kernel_rfl) rfl (by repeat' first | exact trivial | refine ⟨rfl, ?_⟩) fun _ => ?_
      (conv => whnf); repeat ((first | (refine And.intro ?_ ?_; (focus ((repeat' (first | exact trivial | refine And.intro rfl ?_)); done))) | (refine And.intro ?_ ?_; (focus (first | omega | (dsimp -iota only; omega) | (simp -iota; omega) | (simp -iota; done) | decide)))); conv => whnf)
      cases hkb : mayB b with
      | false =>
        have ha : f.renE a b = 1 := by simp [FD.renE, hkb]
        have e2 : f.ren a b = f := if_neg (by rw [ha]; simp)
        rw [e2, ha]
        (conv => whnf); repeat ((first | (refine And.intro ?_ ?_; (focus ((repeat' (first | exact trivial | refine And.intro rfl ?_)); done))) | (refine And.intro ?_ ?_; (focus (first | omega | (dsimp -iota only; omega) | (simp -iota; omega) | (simp -iota; done) | decide)))); conv => whnf)
        refine ⟨_, _, Ent.shutAt (r2 := AV.int .i64 1) [some 0, some 1, some 2, some 3] (f.H) rfl (by kernel_rfl) (AVE.of_eq ?_) ?_ (by kernel_rfl) (by kernel_rfl) (by repeat' first | exact trivial | refine ⟨rfl, ?_⟩) rfl, (), ?_, ?_⟩
        all_goals first | rfl | (repeat' first | exact trivial | refine ⟨⟨_, rfl, ChE.refl _⟩, ?_⟩)
      | true =>
        have ha : f.renE a b = 0 := by simp [FD.renE, hka, hkb, hp]
        have hfn : f.findN a = p := by simp [FD.findN, hp]
        (conv => whnf); repeat ((first | (refine And.intro ?_ ?_; (focus ((repeat' (first | exact trivial | refine And.intro rfl ?_)); done))) | (refine And.intro ?_ ?_; (focus (first | omega | (dsimp -iota only; omega) | (simp -iota; omega) | (simp -iota; done) | decide)))); conv => whnf)
        refine branchB_of (fun g => ?_) (fun g => ?_) <;> (first | replace g := not_t g | replace g := not_f g | skip) <;> (first | replace g := of_decide_eq_true g | replace g := of_decide_eq_false g | skip) <;> (first | replace g := Classical.not_not.1 g | skip) <;> (try dsimp only at g)
        · have e2 : f.ren a b = f := if_neg (by rw [g]; simp)
          rw [e2, ha]
          (conv => whnf); repeat ((first | (refine And.intro ?_ ?_; (focus ((repeat' (first | exact trivial | refine And.intro rfl ?_)); done))) | (refine And.intro ?_ ?_; (focus (first | omega | (dsimp -iota only; omega) | (simp -iota; omega) | (simp -iota; done) | decide)))); conv => whnf)
          refine ⟨_, _, Ent.shutAt (r2 := AV.int .i64 0) [some 0, some 1, some 2, some 3] (f.H) rfl (by kernel_rfl) (AVE.of_eq ?_) ?_ (by kernel_rfl) (by kernel_rfl) (by repeat' first | exact trivial | refine ⟨rfl, ?_⟩) rfl, (), ?_, ?_⟩
          all_goals first | rfl | (repeat' first | exact trivial | refine ⟨⟨_, rfl, ChE.refl _⟩, ?_⟩)
        · have e2 : f.ren a b = f.did (.mv a b p) := by
            unfold FD.ren
            rw [if_pos ⟨ha, g⟩, hfn]
          rw [e2, ha]
          (conv => whnf); repeat ((first | (refine And.intro ?_ ?_; (focus ((repeat' (first | exact trivial | refine And.intro rfl ?_)); done))) | (refine And.intro ?_ ?_; (focus (first | omega | (dsimp -iota only; omega) | (simp -iota; omega) | (simp -iota; done) | decide)))); conv => whnf)
          refine ACall.hent (HEnt.close [0, 1, 2, 3] 0 f.H ?_ ?_) ?_
          · kernel_rfl
          · repeat' first | exact trivial | refine ⟨rfl, ?_⟩
          refine AFn.use [0] (do_ok f (.mv a b p) hl) (by kernel_rfl) rfl (by repeat' first | exact trivial | refine ⟨rfl, ?_⟩) fun _ => ?_
          refine ⟨_, HEnt.refl _, ?_⟩
          (conv => whnf); repeat ((first | (refine And.intro ?_ ?_; (focus ((repeat' (first | exact trivial | refine And.intro rfl ?_)); done))) | (refine And.intro ?_ ?_; (focus (first | omega | (dsimp -iota only; omega) | (simp -iota; omega) | (simp -iota; done) | decide)))); conv => whnf)
          refine ⟨_, _, Ent.mk' (e' := [(0, AV.int .i64 0)]) (H' := one (f.did (.mv a b p)).H) [some 0] (by kernel_rfl) ?_ ?_, (), rfl, rfl⟩
          · exact ⟨AVE.refl _, trivial⟩
          · (repeat' first | exact trivial | refine ⟨⟨_, rfl, ChE.refl _⟩, ?_⟩)
  · have hy := Option.map_eq_none_iff.1 (Option.map_eq_none_iff.1 hy)
    (conv => whnf); repeat ((first | (refine And.intro ?_ ?_; (focus ((repeat' (first | exact trivial | refine And.intro rfl ?_)); done))) | (refine And.intro ?_ ?_; (focus (first | omega | (dsimp -iota only; omega) | (simp -iota; omega) | (simp -iota; done) | decide)))); conv => whnf)
    refine AFn.use [] (may_ok a) (by kernel_rfl) rfl (by repeat' first | exact trivial | refine ⟨rfl, ?_⟩) fun _ => ?_
    (conv => whnf); repeat ((first | (refine And.intro ?_ ?_; (focus ((repeat' (first | exact trivial | refine And.intro rfl ?_)); done))) | (refine And.intro ?_ ?_; (focus (first | omega | (dsimp -iota only; omega) | (simp -iota; omega) | (simp -iota; done) | decide)))); conv => whnf)
    cases hka : mayB a with
    | false =>
      have ha : f.renE a b = 1 := by simp [FD.renE, hka]
      have e2 : f.ren a b = f := if_neg (by rw [ha]; simp)
      rw [e2, ha]
      (conv => whnf); repeat ((first | (refine And.intro ?_ ?_; (focus ((repeat' (first | exact trivial | refine And.intro rfl ?_)); done))) | (refine And.intro ?_ ?_; (focus (first | omega | (dsimp -iota only; omega) | (simp -iota; omega) | (simp -iota; done) | decide)))); conv => whnf)
      refine ⟨_, _, Ent.shutAt (r2 := AV.int .i64 1) [some 0, some 1, some 2, some 3] (f.H) rfl (by kernel_rfl) (AVE.of_eq ?_) ?_ (by kernel_rfl) (by kernel_rfl) (by repeat' first | exact trivial | refine ⟨rfl, ?_⟩) rfl, (), ?_, ?_⟩
      all_goals first | rfl | (repeat' first | exact trivial | refine ⟨⟨_, rfl, ChE.refl _⟩, ?_⟩)
    | true =>
      (conv => whnf); repeat ((first | (refine And.intro ?_ ?_; (focus ((repeat' (first | exact trivial | refine And.intro rfl ?_)); done))) | (refine And.intro ?_ ?_; (focus (first | omega | (dsimp -iota only; omega) | (simp -iota; omega) | (simp -iota; done) | decide)))); conv => whnf)
      refine AFn.use [] (may_ok b) (by kernel_rfl) rfl (by repeat' first | exact trivial | refine ⟨rfl, ?_⟩) fun _ => ?_
      (conv => whnf); repeat ((first | (refine And.intro ?_ ?_; (focus ((repeat' (first | exact trivial | refine And.intro rfl ?_)); done))) | (refine And.intro ?_ ?_; (focus (first | omega | (dsimp -iota only; omega) | (simp -iota; omega) | (simp -iota; done) | decide)))); conv => whnf)
      cases hkb : mayB b with
      | false =>
        have ha : f.renE a b = 1 := by simp [FD.renE, hkb]
        have e2 : f.ren a b = f := if_neg (by rw [ha]; simp)
        rw [e2, ha]
        (conv => whnf); repeat ((first | (refine And.intro ?_ ?_; (focus ((repeat' (first | exact trivial | refine And.intro rfl ?_)); done))) | (refine And.intro ?_ ?_; (focus (first | omega | (dsimp -iota only; omega) | (simp -iota; omega) | (simp -iota; done) | decide)))); conv => whnf)
        refine ⟨_, _, Ent.shutAt (r2 := AV.int .i64 1) [some 0, some 1, some 2, some 3] (f.H) rfl (by kernel_rfl) (AVE.of_eq ?_) ?_ (by kernel_rfl) (by kernel_rfl) (by repeat' first | exact trivial | refine ⟨rfl, ?_⟩) rfl, (), ?_, ?_⟩
        all_goals first | rfl | (repeat' first | exact trivial | refine ⟨⟨_, rfl, ChE.refl _⟩, ?_⟩)
      | true =>
        have ha : f.renE a b = 6 := by simp [FD.renE, hka, hkb, hy]
        have e2 : f.ren a b = f := if_neg (by rw [ha]; simp)
        rw [e2, ha]
        (conv => whnf); repeat ((first | (refine And.intro ?_ ?_; (focus ((repeat' (first | exact trivial | refine And.intro rfl ?_)); done))) | (refine And.intro ?_ ?_; (focus (first | omega | (dsimp -iota only; omega) | (simp -iota; omega) | (simp -iota; done) | decide)))); conv => whnf)
        refine ⟨_, _, Ent.shutAt (r2 := AV.int .i64 6) [some 0, some 1, some 2, some 3] (f.H) rfl (by kernel_rfl) (AVE.of_eq ?_) ?_ (by kernel_rfl) (by kernel_rfl) (by repeat' first | exact trivial | refine ⟨rfl, ?_⟩) rfl, (), ?_, ?_⟩
        all_goals first | rfl | (repeat' first | exact trivial | refine ⟨⟨_, rfl, ChE.refl _⟩, ?_⟩)
end
end Go.Proofs.Yteeifedpabcehaa.Ax
