/-
  Chapter 06: FolderTells, the law's own walk.
-/
import Derived.Test.YteeifedpabcehaaQf
namespace Go.Proofs.Yteeifedpabcehaa.Ax
open Go.RowKit Go.Sort
set_option maxRecDepth 100000
structure T1 (A : List Call) where
  i : Nat
  f : FD
  hi : i ≤ 80
  hil : i ≤ A.length
  hf : f.In (IOk f.last i)
  hd : f.ds.length ≤ i
  hl : f.last ≤ i
theorem create_len (f : FD) (x : List UInt8) : (f.create x).ds.length ≤ f.ds.length + 1 := by
  unfold FD.create
  split
  · simp [FD.did]
  · omega
theorem rem_len (f : FD) (x : List UInt8) : (f.rem x).ds.length ≤ f.ds.length + 1 := by
  unfold FD.rem
  split
  · simp [FD.did]
  · omega
set_option maxHeartbeats 4000000 in
theorem tells_law (A : List Call) : Law Go.Proofs.Try.prog 5 [rowC A] := by
  refine ACall.fin ?_
  refine ACall.walkF (C := cfg 181 0) (cfgOk _ _) sch5 (fn := Go.Proofs.Try.f5) (by kernel_rfl) (by kernel_rfl) rfl (by kernel_rfl) (by kernel_rfl) rfl rfl fun hlen hheap => ?_
  obtain ⟨hl1, _⟩ := hlen
  simp only [lenF] at hl1
  (conv => whnf); repeat ((first | (refine And.intro ?_ ?_; (focus ((repeat' (first | exact trivial | refine And.intro rfl ?_)); done))) | (refine And.intro ?_ ?_; (focus (first | omega | (dsimp -iota only; omega) | (simp -iota; omega) | (simp -iota; done) | decide)))); conv => whnf)
  refine AFn.use [] (new_ok) (by kernel_rfl) rfl (by repeat' first | exact trivial | refine ⟨rfl, ?_⟩) fun _ => ?_
  (conv => whnf); repeat ((first | (refine And.intro ?_ ?_; (focus ((repeat' (first | exact trivial | refine And.intro rfl ?_)); done))) | (refine And.intro ?_ ?_; (focus (first | omega | (dsimp -iota only; omega) | (simp -iota; omega) | (simp -iota; done) | decide)))); conv => whnf)
  refine AFn.use [] (rnew_ok) (by kernel_rfl) rfl (by repeat' first | exact trivial | refine ⟨rfl, ?_⟩) fun _ => ?_
  (conv => whnf); repeat ((first | (refine And.intro ?_ ?_; (focus ((repeat' (first | exact trivial | refine And.intro rfl ?_)); done))) | (refine And.intro ?_ ?_; (focus (first | omega | (dsimp -iota only; omega) | (simp -iota; omega) | (simp -iota; done) | decide)))); conv => whnf)
  refine AWP.merge (Y := Unit) (fun u => []) (fun u => ⟨0, []⟩) 0 (fun u => ?_) ?_
  · (conv => whnf); repeat ((first | (refine And.intro ?_ ?_; (focus ((repeat' (first | exact trivial | refine And.intro rfl ?_)); done))) | (refine And.intro ?_ ?_; (focus (first | omega | (dsimp -iota only; omega) | (simp -iota; omega) | (simp -iota; done) | decide)))); conv => whnf)
    refine AFn.use [] (knows_ok) (by kernel_rfl) rfl (by repeat' first | exact trivial | refine ⟨rfl, ?_⟩) fun _ => ?_
    (conv => whnf); repeat ((first | (refine And.intro ?_ ?_; (focus ((repeat' (first | exact trivial | refine And.intro rfl ?_)); done))) | (refine And.intro ?_ ?_; (focus (first | omega | (dsimp -iota only; omega) | (simp -iota; omega) | (simp -iota; done) | decide)))); conv => whnf)
    exact ⟨_, _, Ent.mk' (e' := [(0, AV.bool true)]) (H' := ⟨0, []⟩) [] (by kernel_rfl) ⟨AVE.of_eq rfl, trivial⟩ trivial, (), rfl, rfl⟩
  refine AWP.loop (X := T1 A) (fun x => [(0, rowC A), (3, .ptr 0 0), (4, .ptr 1 0), (5, AV.int .i64 x.i)]) (fun x => ⟨2, [(0, .sem (Nest x.f.H)), (1, .sem (Nest x.f.RH))]⟩) (fun x => 80 - x.i) (⟨0, ⟨[], [], [], 0⟩, by omega, by omega, ⟨rfl, fun k _ => by cases k <;> exact IOk.none _ _⟩, by simp, by simp⟩) ?_ fun x => AWP.go (S := sch5) (cfgOk _ _) (.of_eq (by kernel_rfl)) ?_
  · exact Ent.mk' [some 0, some 1] (by kernel_rfl) (by repeat' first | exact trivial | refine And.intro (AVE.refl _) ?_ | refine And.intro (AVE.int (by first | rfl | omega | (dsimp only; omega) | (simp -iota; omega) | (simp -iota; done))) ?_ | refine And.intro (AVE.bool (by assumption)) ?_ | refine And.intro (AVE.len (by first | rfl | omega | (dsimp only; omega) | (simp -iota; omega) | (simp -iota; done))) ?_) (by repeat' (first | exact trivial | refine ⟨⟨_, rfl, ChE.refl _⟩, ?_⟩))
  · obtain ⟨i, f, hi, hil, hf, hd, hl⟩ := x
    have hix : ((i : Nat) : Int).toNat = i := by simp
    (conv => whnf); repeat ((first | (refine And.intro ?_ ?_; (focus ((repeat' (first | exact trivial | refine And.intro rfl ?_)); done))) | (refine And.intro ?_ ?_; (focus (first | omega | (dsimp -iota only; omega) | (simp -iota; omega) | (simp -iota; done) | decide)))); conv => whnf)
    refine branchB_of (fun h => ?_) (fun h => ?_) <;> (first | replace h := not_t h | replace h := not_f h | skip) <;> (first | replace h := of_decide_eq_true h | replace h := of_decide_eq_false h | skip) <;> (first | replace h := Classical.not_not.1 h | skip) <;> (try dsimp only at h)
    rotate_left
    · (conv => whnf); repeat ((first | (refine And.intro ?_ ?_; (focus ((repeat' (first | exact trivial | refine And.intro rfl ?_)); done))) | (refine And.intro ?_ ?_; (focus (first | omega | (dsimp -iota only; omega) | (simp -iota; omega) | (simp -iota; done) | decide)))); conv => whnf)
      exact ⟨(), Ent.mk' [] (by kernel_rfl) (by repeat' first | exact trivial | refine And.intro (AVE.refl _) ?_ | refine And.intro (AVE.int (by first | rfl | omega | (dsimp only; omega) | (simp -iota; omega) | (simp -iota; done))) ?_ | refine And.intro (AVE.bool (by assumption)) ?_ | refine And.intro (AVE.len (by first | rfl | omega | (dsimp only; omega) | (simp -iota; omega) | (simp -iota; done))) ?_) (by repeat' (first | exact trivial | refine ⟨⟨_, rfl, ChE.refl _⟩, ?_⟩))⟩
    (conv => whnf); repeat ((first | (refine And.intro ?_ ?_; (focus ((repeat' (first | exact trivial | refine And.intro rfl ?_)); done))) | (refine And.intro ?_ ?_; (focus (first | omega | (dsimp -iota only; omega) | (simp -iota; omega) | (simp -iota; done) | decide)))); conv => whnf)
    refine branchB_of (fun h2 => ?_) (fun h2 => ?_) <;> (first | replace h2 := not_t h2 | replace h2 := not_f h2 | skip) <;> (first | replace h2 := of_decide_eq_true h2 | replace h2 := of_decide_eq_false h2 | skip) <;> (first | replace h2 := Classical.not_not.1 h2 | skip) <;> (try dsimp only at h2)
    rotate_left
    · (conv => whnf); repeat ((first | (refine And.intro ?_ ?_; (focus ((repeat' (first | exact trivial | refine And.intro rfl ?_)); done))) | (refine And.intro ?_ ?_; (focus (first | omega | (dsimp -iota only; omega) | (simp -iota; omega) | (simp -iota; done) | decide)))); conv => whnf)
      exact ⟨(), Ent.mk' [] (by kernel_rfl) (by repeat' first | exact trivial | refine And.intro (AVE.refl _) ?_ | refine And.intro (AVE.int (by first | rfl | omega | (dsimp only; omega) | (simp -iota; omega) | (simp -iota; done))) ?_ | refine And.intro (AVE.bool (by assumption)) ?_ | refine And.intro (AVE.len (by first | rfl | omega | (dsimp only; omega) | (simp -iota; omega) | (simp -iota; done))) ?_) (by repeat' (first | exact trivial | refine ⟨⟨_, rfl, ChE.refl _⟩, ?_⟩))⟩
    (conv => whnf); repeat ((first | (refine And.intro ?_ ?_; (focus ((repeat' (first | exact trivial | refine And.intro rfl ?_)); done))) | (refine And.intro ?_ ?_; (focus (first | omega | (dsimp -iota only; omega) | (simp -iota; omega) | (simp -iota; done) | decide)))); conv => whnf)
    generalize A.getD ((i : Nat) : Int).toNat default = c at *
    have hcl := create_len f [120]
    have hrl := rem_len (f.create [120]) c.s
    have hst := does_sizes f c
    have hf' := does_iok hf c
    have hin : f.In NOk := hf.mono fun m hm => hm.nok (by omega)
    obtain ⟨f', hfd⟩ : ∃ f', f' = f.does c := ⟨_, rfl⟩
    rw [← hfd] at hst hf'
    obtain ⟨hst1, hst2⟩ := hst
    have hin' : f'.In NOk := hf'.mono fun m hm => hm.nok (by omega)
    have hnok := hin'.now
    have hLl := lsN_length f'.now
    have hVl := live_len hin'
    have hsn := sts_now hin'
    have hLn := hnok.len
    apply AWP.ahead (C := cfg 181 0) ([(0, rowC A), (3, .ptr 0 0), (4, .ptr 1 0), (5, AV.int .i64 i), (16, .iv (.sl 2 (lsN f'.now).length (enF (lsN f'.now)))), (17, .iv (.sl 1 f'.live.length (uF f'.live.toArray))), (18, .iv (.sl 2 (lsN f'.now).length (enF (lsN f'.now)))), (19, .iv (.sl 1 f'.live.length (uF f'.live.toArray))), (20, AV.int .i64 0)]) (⟨3, [(0, .sem (Nest f'.H)), (1, .cells 57 [.row 2 1 0 (f'.ds.length + 1), AV.int .u64 f'.last]), (2, .rowc 53 1 (f'.ds.length + 1) (siF f'))]⟩)
    · intro key
      refine branchB_of (fun g7 => ?_) (fun g7 => ?_) <;> (first | replace g7 := not_t g7 | replace g7 := not_f g7 | skip) <;> (first | replace g7 := of_decide_eq_true g7 | replace g7 := of_decide_eq_false g7 | skip) <;> (first | replace g7 := Classical.not_not.1 g7 | skip) <;> (try dsimp only at g7)
      · (conv => whnf); repeat ((first | (refine And.intro ?_ ?_; (focus ((repeat' (first | exact trivial | refine And.intro rfl ?_)); done))) | (refine And.intro ?_ ?_; (focus (first | omega | (dsimp -iota only; omega) | (simp -iota; omega) | (simp -iota; done) | decide)))); conv => whnf)
        refine branchB_of (fun g7b => ?_) (fun g7b => ?_) <;> (first | replace g7b := not_t g7b | replace g7b := not_f g7b | skip) <;> (first | replace g7b := of_decide_eq_true g7b | replace g7b := of_decide_eq_false g7b | skip) <;> (first | replace g7b := Classical.not_not.1 g7b | skip) <;> (try dsimp only at g7b)
        rotate_left
        · exact absurd g7 g7b
        (conv => whnf); repeat ((first | (refine And.intro ?_ ?_; (focus ((repeat' (first | exact trivial | refine And.intro rfl ?_)); done))) | (refine And.intro ?_ ?_; (focus (first | omega | (dsimp -iota only; omega) | (simp -iota; omega) | (simp -iota; done) | decide)))); conv => whnf)
        refine AFn.use [0] (copy_ok f (by omega)) (by kernel_rfl) rfl (by repeat' first | exact trivial | refine ⟨rfl, ?_⟩) fun _ => ?_
        (conv => whnf); repeat ((first | (refine And.intro ?_ ?_; (focus ((repeat' (first | exact trivial | refine And.intro rfl ?_)); done))) | (refine And.intro ?_ ?_; (focus (first | omega | (dsimp -iota only; omega) | (simp -iota; omega) | (simp -iota; done) | decide)))); conv => whnf)
        refine AFn.use [0] (create_ok f (by omega) (by omega) [120]) (by kernel_rfl) rfl (by repeat' first | exact trivial | refine ⟨rfl, ?_⟩) fun _ => ?_
        (conv => whnf); repeat ((first | (refine And.intro ?_ ?_; (focus ((repeat' (first | exact trivial | refine And.intro rfl ?_)); done))) | (refine And.intro ?_ ?_; (focus (first | omega | (dsimp -iota only; omega) | (simp -iota; omega) | (simp -iota; done) | decide)))); conv => whnf)
        refine AFn.use [0] (remove_ok (f.create [120]) (by omega) c.s) (by kernel_rfl) rfl (by repeat' first | exact trivial | refine ⟨rfl, ?_⟩) fun _ => ?_
        (conv => whnf); repeat ((first | (refine And.intro ?_ ?_; (focus ((repeat' (first | exact trivial | refine And.intro rfl ?_)); done))) | (refine And.intro ?_ ?_; (focus (first | omega | (dsimp -iota only; omega) | (simp -iota; omega) | (simp -iota; done) | decide)))); conv => whnf)
        refine AFn.use [0] (crash_ok ((f.create [120]).rem c.s) (by omega) 1) (by kernel_rfl) rfl (by repeat' first | exact trivial | refine ⟨rfl, ?_⟩) fun _ => ?_
        (conv => whnf); repeat ((first | (refine And.intro ?_ ?_; (focus ((repeat' (first | exact trivial | refine And.intro rfl ?_)); done))) | (refine And.intro ?_ ?_; (focus (first | omega | (dsimp -iota only; omega) | (simp -iota; omega) | (simp -iota; done) | decide)))); conv => whnf)
        refine AFn.use [3] (does_ok f (by omega) (by omega) c) (by kernel_rfl) rfl (by repeat' first | exact trivial | refine ⟨rfl, ?_⟩) fun _ => ?_
        rw [← hfd]
        (conv => whnf); repeat ((first | (refine And.intro ?_ ?_; (focus ((repeat' (first | exact trivial | refine And.intro rfl ?_)); done))) | (refine And.intro ?_ ?_; (focus (first | omega | (dsimp -iota only; omega) | (simp -iota; omega) | (simp -iota; done) | decide)))); conv => whnf)
        refine AFn.use [1] (rwants_ok f (by omega) (by omega) hin c) (by kernel_rfl) rfl (by repeat' first | exact trivial | refine ⟨rfl, ?_⟩) fun _ => ?_
        rw [← hfd]
        (conv => whnf); repeat ((first | (refine And.intro ?_ ?_; (focus ((repeat' (first | exact trivial | refine And.intro rfl ?_)); done))) | (refine And.intro ?_ ?_; (focus (first | omega | (dsimp -iota only; omega) | (simp -iota; omega) | (simp -iota; done) | decide)))); conv => whnf)
        refine AFn.use [3] (find_ok f' c.s) (by kernel_rfl) rfl (by repeat' first | exact trivial | refine ⟨rfl, ?_⟩) fun _ => ?_
        (conv => whnf); repeat ((first | (refine And.intro ?_ ?_; (focus ((repeat' (first | exact trivial | refine And.intro rfl ?_)); done))) | (refine And.intro ?_ ?_; (focus (first | omega | (dsimp -iota only; omega) | (simp -iota; omega) | (simp -iota; done) | decide)))); conv => whnf)
        refine AFn.use [1] (rfind_ok f' (by omega) hin' c.s) (by kernel_rfl) rfl (by repeat' first | exact trivial | refine ⟨rfl, ?_⟩) fun _ => ?_
        (conv => whnf); repeat ((first | (refine And.intro ?_ ?_; (focus ((repeat' (first | exact trivial | refine And.intro rfl ?_)); done))) | (refine And.intro ?_ ?_; (focus (first | omega | (dsimp -iota only; omega) | (simp -iota; omega) | (simp -iota; done) | decide)))); conv => whnf)
        refine AFn.use [3] (list_ok f' hnok) (by kernel_rfl) rfl (by repeat' first | exact trivial | refine ⟨rfl, ?_⟩) fun _ => ?_
        (conv => whnf); repeat ((first | (refine And.intro ?_ ?_; (focus ((repeat' (first | exact trivial | refine And.intro rfl ?_)); done))) | (refine And.intro ?_ ?_; (focus (first | omega | (dsimp -iota only; omega) | (simp -iota; omega) | (simp -iota; done) | decide)))); conv => whnf)
        refine AFn.use [3] (live_ok f' hin' (by omega)) (by kernel_rfl) rfl (by repeat' first | exact trivial | refine ⟨rfl, ?_⟩) fun _ => ?_
        (conv => whnf); repeat ((first | (refine And.intro ?_ ?_; (focus ((repeat' (first | exact trivial | refine And.intro rfl ?_)); done))) | (refine And.intro ?_ ?_; (focus (first | omega | (dsimp -iota only; omega) | (simp -iota; omega) | (simp -iota; done) | decide)))); conv => whnf)
        refine AFn.use [1] (rlist_ok f' (by omega)) (by kernel_rfl) rfl (by repeat' first | exact trivial | refine ⟨rfl, ?_⟩) fun _ => ?_
        rw [hsn]
        (conv => whnf); repeat ((first | (refine And.intro ?_ ?_; (focus ((repeat' (first | exact trivial | refine And.intro rfl ?_)); done))) | (refine And.intro ?_ ?_; (focus (first | omega | (dsimp -iota only; omega) | (simp -iota; omega) | (simp -iota; done) | decide)))); conv => whnf)
        refine ACall.hent (HEnt.open 1 f'.RH rfl rfl) ?_
        refine AFn.use [1, 4] (rlive_in f' (by omega) (by omega) hf' (by omega)) (by kernel_rfl) rfl (by repeat' first | exact trivial | refine ⟨rfl, ?_⟩) fun _ => ?_
        refine ⟨_, HEnt.refl _, ?_⟩
        (conv => whnf); repeat ((first | (refine And.intro ?_ ?_; (focus ((repeat' (first | exact trivial | refine And.intro rfl ?_)); done))) | (refine And.intro ?_ ?_; (focus (first | omega | (dsimp -iota only; omega) | (simp -iota; omega) | (simp -iota; done) | decide)))); conv => whnf)
        repeat' (first
          | (refine branchB_of (fun q => ?_) (fun q => ?_) <;> (first | replace q := not_t q | replace q := not_f q | skip) <;> (first | replace q := of_decide_eq_true q | replace q := of_decide_eq_false q | skip) <;> (first | replace q := Classical.not_not.1 q | skip) <;> (try dsimp only at q)
             · (exfalso; first | exact q rfl | omega | (simp at q; done))
             (conv => whnf); repeat ((first | (refine And.intro ?_ ?_; (focus ((repeat' (first | exact trivial | refine And.intro rfl ?_)); done))) | (refine And.intro ?_ ?_; (focus (first | omega | (dsimp -iota only; omega) | (simp -iota; omega) | (simp -iota; done) | decide)))); conv => whnf))
          | (refine And.intro ?_ ?_ <;> ((conv => whnf); repeat ((first | (refine And.intro ?_ ?_; (focus ((repeat' (first | exact trivial | refine And.intro rfl ?_)); done))) | (refine And.intro ?_ ?_; (focus (first | omega | (dsimp -iota only; omega) | (simp -iota; omega) | (simp -iota; done) | decide)))); conv => whnf)))
          | (refine AFn.use [3] (loose_ok f') (by kernel_rfl) rfl (by repeat' first | exact trivial | refine ⟨rfl, ?_⟩) fun _ => ?_
             (conv => whnf); repeat ((first | (refine And.intro ?_ ?_; (focus ((repeat' (first | exact trivial | refine And.intro rfl ?_)); done))) | (refine And.intro ?_ ?_; (focus (first | omega | (dsimp -iota only; omega) | (simp -iota; omega) | (simp -iota; done) | decide)))); conv => whnf))
          | (refine AFn.use [] (may_ok c.t) (by kernel_rfl) rfl (by repeat' first | exact trivial | refine ⟨rfl, ?_⟩) fun _ => ?_
             (conv => whnf); repeat ((first | (refine And.intro ?_ ?_; (focus ((repeat' (first | exact trivial | refine And.intro rfl ?_)); done))) | (refine And.intro ?_ ?_; (focus (first | omega | (dsimp -iota only; omega) | (simp -iota; omega) | (simp -iota; done) | decide)))); conv => whnf))
          | (refine AFn.use [] (rmay_ok c.t) (by kernel_rfl) rfl (by repeat' first | exact trivial | refine ⟨rfl, ?_⟩) fun _ => ?_
             (conv => whnf); repeat ((first | (refine And.intro ?_ ?_; (focus ((repeat' (first | exact trivial | refine And.intro rfl ?_)); done))) | (refine And.intro ?_ ?_; (focus (first | omega | (dsimp -iota only; omega) | (simp -iota; omega) | (simp -iota; done) | decide)))); conv => whnf)))
        all_goals
          refine AWP.of_ent ?_ key
          exact Ent.mk' [some 3, some 1, some 4] (by kernel_rfl) (by repeat' first | exact trivial | refine And.intro (AVE.refl _) ?_ | refine And.intro (AVE.int (by first | rfl | omega | (dsimp only; omega) | (simp -iota; omega) | (simp -iota; done))) ?_ | refine And.intro (AVE.bool (by assumption)) ?_ | refine And.intro (AVE.len (by first | rfl | omega | (dsimp only; omega) | (simp -iota; omega) | (simp -iota; done))) ?_) (by repeat' (first | exact trivial | refine ⟨⟨_, rfl, ChE.refl _⟩, ?_⟩))
      · (conv => whnf); repeat ((first | (refine And.intro ?_ ?_; (focus ((repeat' (first | exact trivial | refine And.intro rfl ?_)); done))) | (refine And.intro ?_ ?_; (focus (first | omega | (dsimp -iota only; omega) | (simp -iota; omega) | (simp -iota; done) | decide)))); conv => whnf)
        refine branchB_of (fun g8 => ?_) (fun g8 => ?_) <;> (first | replace g8 := not_t g8 | replace g8 := not_f g8 | skip) <;> (first | replace g8 := of_decide_eq_true g8 | replace g8 := of_decide_eq_false g8 | skip) <;> (first | replace g8 := Classical.not_not.1 g8 | skip) <;> (try dsimp only at g8)
        · (conv => whnf); repeat ((first | (refine And.intro ?_ ?_; (focus ((repeat' (first | exact trivial | refine And.intro rfl ?_)); done))) | (refine And.intro ?_ ?_; (focus (first | omega | (dsimp -iota only; omega) | (simp -iota; omega) | (simp -iota; done) | decide)))); conv => whnf)
          refine branchB_of (fun g7b => ?_) (fun g7b => ?_) <;> (first | replace g7b := not_t g7b | replace g7b := not_f g7b | skip) <;> (first | replace g7b := of_decide_eq_true g7b | replace g7b := of_decide_eq_false g7b | skip) <;> (first | replace g7b := Classical.not_not.1 g7b | skip) <;> (try dsimp only at g7b)
          · exact absurd g7b g7
          (conv => whnf); repeat ((first | (refine And.intro ?_ ?_; (focus ((repeat' (first | exact trivial | refine And.intro rfl ?_)); done))) | (refine And.intro ?_ ?_; (focus (first | omega | (dsimp -iota only; omega) | (simp -iota; omega) | (simp -iota; done) | decide)))); conv => whnf)
          refine AFn.use [0] (copy_ok f (by omega)) (by kernel_rfl) rfl (by repeat' first | exact trivial | refine ⟨rfl, ?_⟩) fun _ => ?_
          (conv => whnf); repeat ((first | (refine And.intro ?_ ?_; (focus ((repeat' (first | exact trivial | refine And.intro rfl ?_)); done))) | (refine And.intro ?_ ?_; (focus (first | omega | (dsimp -iota only; omega) | (simp -iota; omega) | (simp -iota; done) | decide)))); conv => whnf)
          refine AFn.use [3] (create_ok f (by omega) (by omega) [120]) (by kernel_rfl) rfl (by repeat' first | exact trivial | refine ⟨rfl, ?_⟩) fun _ => ?_
          (conv => whnf); repeat ((first | (refine And.intro ?_ ?_; (focus ((repeat' (first | exact trivial | refine And.intro rfl ?_)); done))) | (refine And.intro ?_ ?_; (focus (first | omega | (dsimp -iota only; omega) | (simp -iota; omega) | (simp -iota; done) | decide)))); conv => whnf)
          refine AFn.use [3] (remove_ok (f.create [120]) (by omega) c.s) (by kernel_rfl) rfl (by repeat' first | exact trivial | refine ⟨rfl, ?_⟩) fun _ => ?_
          (conv => whnf); repeat ((first | (refine And.intro ?_ ?_; (focus ((repeat' (first | exact trivial | refine And.intro rfl ?_)); done))) | (refine And.intro ?_ ?_; (focus (first | omega | (dsimp -iota only; omega) | (simp -iota; omega) | (simp -iota; done) | decide)))); conv => whnf)
          refine AFn.use [3] (crash_ok ((f.create [120]).rem c.s) (by omega) 1) (by kernel_rfl) rfl (by repeat' first | exact trivial | refine ⟨rfl, ?_⟩) fun _ => ?_
          (conv => whnf); repeat ((first | (refine And.intro ?_ ?_; (focus ((repeat' (first | exact trivial | refine And.intro rfl ?_)); done))) | (refine And.intro ?_ ?_; (focus (first | omega | (dsimp -iota only; omega) | (simp -iota; omega) | (simp -iota; done) | decide)))); conv => whnf)
          refine AFn.use [0] (does_ok f (by omega) (by omega) c) (by kernel_rfl) rfl (by repeat' first | exact trivial | refine ⟨rfl, ?_⟩) fun _ => ?_
          rw [← hfd]
          (conv => whnf); repeat ((first | (refine And.intro ?_ ?_; (focus ((repeat' (first | exact trivial | refine And.intro rfl ?_)); done))) | (refine And.intro ?_ ?_; (focus (first | omega | (dsimp -iota only; omega) | (simp -iota; omega) | (simp -iota; done) | decide)))); conv => whnf)
          refine AFn.use [1] (rwants_ok f (by omega) (by omega) hin c) (by kernel_rfl) rfl (by repeat' first | exact trivial | refine ⟨rfl, ?_⟩) fun _ => ?_
          rw [← hfd]
          (conv => whnf); repeat ((first | (refine And.intro ?_ ?_; (focus ((repeat' (first | exact trivial | refine And.intro rfl ?_)); done))) | (refine And.intro ?_ ?_; (focus (first | omega | (dsimp -iota only; omega) | (simp -iota; omega) | (simp -iota; done) | decide)))); conv => whnf)
          refine AFn.use [0] (find_ok f' c.s) (by kernel_rfl) rfl (by repeat' first | exact trivial | refine ⟨rfl, ?_⟩) fun _ => ?_
          (conv => whnf); repeat ((first | (refine And.intro ?_ ?_; (focus ((repeat' (first | exact trivial | refine And.intro rfl ?_)); done))) | (refine And.intro ?_ ?_; (focus (first | omega | (dsimp -iota only; omega) | (simp -iota; omega) | (simp -iota; done) | decide)))); conv => whnf)
          refine AFn.use [1] (rfind_ok f' (by omega) hin' c.s) (by kernel_rfl) rfl (by repeat' first | exact trivial | refine ⟨rfl, ?_⟩) fun _ => ?_
          (conv => whnf); repeat ((first | (refine And.intro ?_ ?_; (focus ((repeat' (first | exact trivial | refine And.intro rfl ?_)); done))) | (refine And.intro ?_ ?_; (focus (first | omega | (dsimp -iota only; omega) | (simp -iota; omega) | (simp -iota; done) | decide)))); conv => whnf)
          refine AFn.use [0] (list_ok f' hnok) (by kernel_rfl) rfl (by repeat' first | exact trivial | refine ⟨rfl, ?_⟩) fun _ => ?_
          (conv => whnf); repeat ((first | (refine And.intro ?_ ?_; (focus ((repeat' (first | exact trivial | refine And.intro rfl ?_)); done))) | (refine And.intro ?_ ?_; (focus (first | omega | (dsimp -iota only; omega) | (simp -iota; omega) | (simp -iota; done) | decide)))); conv => whnf)
          refine AFn.use [0] (live_ok f' hin' (by omega)) (by kernel_rfl) rfl (by repeat' first | exact trivial | refine ⟨rfl, ?_⟩) fun _ => ?_
          (conv => whnf); repeat ((first | (refine And.intro ?_ ?_; (focus ((repeat' (first | exact trivial | refine And.intro rfl ?_)); done))) | (refine And.intro ?_ ?_; (focus (first | omega | (dsimp -iota only; omega) | (simp -iota; omega) | (simp -iota; done) | decide)))); conv => whnf)
          refine AFn.use [1] (rlist_ok f' (by omega)) (by kernel_rfl) rfl (by repeat' first | exact trivial | refine ⟨rfl, ?_⟩) fun _ => ?_
          rw [hsn]
          (conv => whnf); repeat ((first | (refine And.intro ?_ ?_; (focus ((repeat' (first | exact trivial | refine And.intro rfl ?_)); done))) | (refine And.intro ?_ ?_; (focus (first | omega | (dsimp -iota only; omega) | (simp -iota; omega) | (simp -iota; done) | decide)))); conv => whnf)
          refine ACall.hent (HEnt.open 1 f'.RH rfl rfl) ?_
          refine AFn.use [1, 4] (rlive_in f' (by omega) (by omega) hf' (by omega)) (by kernel_rfl) rfl (by repeat' first | exact trivial | refine ⟨rfl, ?_⟩) fun _ => ?_
          refine ⟨_, HEnt.refl _, ?_⟩
          (conv => whnf); repeat ((first | (refine And.intro ?_ ?_; (focus ((repeat' (first | exact trivial | refine And.intro rfl ?_)); done))) | (refine And.intro ?_ ?_; (focus (first | omega | (dsimp -iota only; omega) | (simp -iota; omega) | (simp -iota; done) | decide)))); conv => whnf)
          repeat' (first
            | (refine branchB_of (fun q => ?_) (fun q => ?_) <;> (first | replace q := not_t q | replace q := not_f q | skip) <;> (first | replace q := of_decide_eq_true q | replace q := of_decide_eq_false q | skip) <;> (first | replace q := Classical.not_not.1 q | skip) <;> (try dsimp only at q)
               · (exfalso; first | exact q rfl | omega | (simp at q; done))
               (conv => whnf); repeat ((first | (refine And.intro ?_ ?_; (focus ((repeat' (first | exact trivial | refine And.intro rfl ?_)); done))) | (refine And.intro ?_ ?_; (focus (first | omega | (dsimp -iota only; omega) | (simp -iota; omega) | (simp -iota; done) | decide)))); conv => whnf))
            | (refine And.intro ?_ ?_ <;> ((conv => whnf); repeat ((first | (refine And.intro ?_ ?_; (focus ((repeat' (first | exact trivial | refine And.intro rfl ?_)); done))) | (refine And.intro ?_ ?_; (focus (first | omega | (dsimp -iota only; omega) | (simp -iota; omega) | (simp -iota; done) | decide)))); conv => whnf)))
            | (refine AFn.use [0] (loose_ok f') (by kernel_rfl) rfl (by repeat' first | exact trivial | refine ⟨rfl, ?_⟩) fun _ => ?_
               (conv => whnf); repeat ((first | (refine And.intro ?_ ?_; (focus ((repeat' (first | exact trivial | refine And.intro rfl ?_)); done))) | (refine And.intro ?_ ?_; (focus (first | omega | (dsimp -iota only; omega) | (simp -iota; omega) | (simp -iota; done) | decide)))); conv => whnf))
            | (refine AFn.use [] (may_ok c.t) (by kernel_rfl) rfl (by repeat' first | exact trivial | refine ⟨rfl, ?_⟩) fun _ => ?_
               (conv => whnf); repeat ((first | (refine And.intro ?_ ?_; (focus ((repeat' (first | exact trivial | refine And.intro rfl ?_)); done))) | (refine And.intro ?_ ?_; (focus (first | omega | (dsimp -iota only; omega) | (simp -iota; omega) | (simp -iota; done) | decide)))); conv => whnf))
            | (refine AFn.use [] (rmay_ok c.t) (by kernel_rfl) rfl (by repeat' first | exact trivial | refine ⟨rfl, ?_⟩) fun _ => ?_
               (conv => whnf); repeat ((first | (refine And.intro ?_ ?_; (focus ((repeat' (first | exact trivial | refine And.intro rfl ?_)); done))) | (refine And.intro ?_ ?_; (focus (first | omega | (dsimp -iota only; omega) | (simp -iota; omega) | (simp -iota; done) | decide)))); conv => whnf)))
          all_goals
            refine AWP.of_ent ?_ key
            exact Ent.mk' [some 0, some 1, some 4] (by kernel_rfl) (by repeat' first | exact trivial | refine And.intro (AVE.refl _) ?_ | refine And.intro (AVE.int (by first | rfl | omega | (dsimp only; omega) | (simp -iota; omega) | (simp -iota; done))) ?_ | refine And.intro (AVE.bool (by assumption)) ?_ | refine And.intro (AVE.len (by first | rfl | omega | (dsimp only; omega) | (simp -iota; omega) | (simp -iota; done))) ?_) (by repeat' (first | exact trivial | refine ⟨⟨_, rfl, ChE.refl _⟩, ?_⟩))
        · apply AWP.ahead (C := cfg 181 0) ([(0, rowC A), (3, .ptr 0 0), (4, .ptr 1 0), (5, AV.int .i64 i), (16, .iv (.sl 2 (lsN f'.now).length (enF (lsN f'.now)))), (17, .iv (.sl 1 f'.live.length (uF f'.live.toArray))), (18, .iv (.sl 2 (lsN f'.now).length (enF (lsN f'.now)))), (19, .iv (.sl 1 f'.live.length (uF f'.live.toArray))), (20, AV.int .i64 0)]) (⟨3, [(0, .sem (Nest f'.H)), (1, .cells 57 [.row 2 1 0 (f'.ds.length + 1), AV.int .u64 f'.last]), (2, .rowc 53 1 (f'.ds.length + 1) (siF f'))]⟩)
          · intro key
            (conv => whnf); repeat ((first | (refine And.intro ?_ ?_; (focus ((repeat' (first | exact trivial | refine And.intro rfl ?_)); done))) | (refine And.intro ?_ ?_; (focus (first | omega | (dsimp -iota only; omega) | (simp -iota; omega) | (simp -iota; done) | decide)))); conv => whnf)
            refine AFn.use [0] (does_ok f (by omega) (by omega) c) (by kernel_rfl) rfl (by repeat' first | exact trivial | refine ⟨rfl, ?_⟩) fun _ => ?_
            rw [← hfd]
            (conv => whnf); repeat ((first | (refine And.intro ?_ ?_; (focus ((repeat' (first | exact trivial | refine And.intro rfl ?_)); done))) | (refine And.intro ?_ ?_; (focus (first | omega | (dsimp -iota only; omega) | (simp -iota; omega) | (simp -iota; done) | decide)))); conv => whnf)
            refine AFn.use [1] (rwants_ok f (by omega) (by omega) hin c) (by kernel_rfl) rfl (by repeat' first | exact trivial | refine ⟨rfl, ?_⟩) fun _ => ?_
            rw [← hfd]
            (conv => whnf); repeat ((first | (refine And.intro ?_ ?_; (focus ((repeat' (first | exact trivial | refine And.intro rfl ?_)); done))) | (refine And.intro ?_ ?_; (focus (first | omega | (dsimp -iota only; omega) | (simp -iota; omega) | (simp -iota; done) | decide)))); conv => whnf)
            refine AFn.use [0] (find_ok f' c.s) (by kernel_rfl) rfl (by repeat' first | exact trivial | refine ⟨rfl, ?_⟩) fun _ => ?_
            (conv => whnf); repeat ((first | (refine And.intro ?_ ?_; (focus ((repeat' (first | exact trivial | refine And.intro rfl ?_)); done))) | (refine And.intro ?_ ?_; (focus (first | omega | (dsimp -iota only; omega) | (simp -iota; omega) | (simp -iota; done) | decide)))); conv => whnf)
            refine AFn.use [1] (rfind_ok f' (by omega) hin' c.s) (by kernel_rfl) rfl (by repeat' first | exact trivial | refine ⟨rfl, ?_⟩) fun _ => ?_
            (conv => whnf); repeat ((first | (refine And.intro ?_ ?_; (focus ((repeat' (first | exact trivial | refine And.intro rfl ?_)); done))) | (refine And.intro ?_ ?_; (focus (first | omega | (dsimp -iota only; omega) | (simp -iota; omega) | (simp -iota; done) | decide)))); conv => whnf)
            refine AFn.use [0] (list_ok f' hnok) (by kernel_rfl) rfl (by repeat' first | exact trivial | refine ⟨rfl, ?_⟩) fun _ => ?_
            (conv => whnf); repeat ((first | (refine And.intro ?_ ?_; (focus ((repeat' (first | exact trivial | refine And.intro rfl ?_)); done))) | (refine And.intro ?_ ?_; (focus (first | omega | (dsimp -iota only; omega) | (simp -iota; omega) | (simp -iota; done) | decide)))); conv => whnf)
            refine AFn.use [0] (live_ok f' hin' (by omega)) (by kernel_rfl) rfl (by repeat' first | exact trivial | refine ⟨rfl, ?_⟩) fun _ => ?_
            (conv => whnf); repeat ((first | (refine And.intro ?_ ?_; (focus ((repeat' (first | exact trivial | refine And.intro rfl ?_)); done))) | (refine And.intro ?_ ?_; (focus (first | omega | (dsimp -iota only; omega) | (simp -iota; omega) | (simp -iota; done) | decide)))); conv => whnf)
            refine AFn.use [1] (rlist_ok f' (by omega)) (by kernel_rfl) rfl (by repeat' first | exact trivial | refine ⟨rfl, ?_⟩) fun _ => ?_
            rw [hsn]
            (conv => whnf); repeat ((first | (refine And.intro ?_ ?_; (focus ((repeat' (first | exact trivial | refine And.intro rfl ?_)); done))) | (refine And.intro ?_ ?_; (focus (first | omega | (dsimp -iota only; omega) | (simp -iota; omega) | (simp -iota; done) | decide)))); conv => whnf)
            refine ACall.hent (HEnt.open 1 f'.RH rfl rfl) ?_
            refine AFn.use [1, 3] (rlive_in f' (by omega) (by omega) hf' (by omega)) (by kernel_rfl) rfl (by repeat' first | exact trivial | refine ⟨rfl, ?_⟩) fun _ => ?_
            refine ⟨_, HEnt.refl _, ?_⟩
            (conv => whnf); repeat ((first | (refine And.intro ?_ ?_; (focus ((repeat' (first | exact trivial | refine And.intro rfl ?_)); done))) | (refine And.intro ?_ ?_; (focus (first | omega | (dsimp -iota only; omega) | (simp -iota; omega) | (simp -iota; done) | decide)))); conv => whnf)
            repeat' (first
              | (refine branchB_of (fun q => ?_) (fun q => ?_) <;> (first | replace q := not_t q | replace q := not_f q | skip) <;> (first | replace q := of_decide_eq_true q | replace q := of_decide_eq_false q | skip) <;> (first | replace q := Classical.not_not.1 q | skip) <;> (try dsimp only at q)
                 · (exfalso; first | exact q rfl | omega | (simp at q; done))
                 (conv => whnf); repeat ((first | (refine And.intro ?_ ?_; (focus ((repeat' (first | exact trivial | refine And.intro rfl ?_)); done))) | (refine And.intro ?_ ?_; (focus (first | omega | (dsimp -iota only; omega) | (simp -iota; omega) | (simp -iota; done) | decide)))); conv => whnf))
              | (refine And.intro ?_ ?_ <;> ((conv => whnf); repeat ((first | (refine And.intro ?_ ?_; (focus ((repeat' (first | exact trivial | refine And.intro rfl ?_)); done))) | (refine And.intro ?_ ?_; (focus (first | omega | (dsimp -iota only; omega) | (simp -iota; omega) | (simp -iota; done) | decide)))); conv => whnf)))
              | (refine AFn.use [0] (loose_ok f') (by kernel_rfl) rfl (by repeat' first | exact trivial | refine ⟨rfl, ?_⟩) fun _ => ?_
                 (conv => whnf); repeat ((first | (refine And.intro ?_ ?_; (focus ((repeat' (first | exact trivial | refine And.intro rfl ?_)); done))) | (refine And.intro ?_ ?_; (focus (first | omega | (dsimp -iota only; omega) | (simp -iota; omega) | (simp -iota; done) | decide)))); conv => whnf))
              | (refine AFn.use [] (may_ok c.t) (by kernel_rfl) rfl (by repeat' first | exact trivial | refine ⟨rfl, ?_⟩) fun _ => ?_
                 (conv => whnf); repeat ((first | (refine And.intro ?_ ?_; (focus ((repeat' (first | exact trivial | refine And.intro rfl ?_)); done))) | (refine And.intro ?_ ?_; (focus (first | omega | (dsimp -iota only; omega) | (simp -iota; omega) | (simp -iota; done) | decide)))); conv => whnf))
              | (refine AFn.use [] (rmay_ok c.t) (by kernel_rfl) rfl (by repeat' first | exact trivial | refine ⟨rfl, ?_⟩) fun _ => ?_
                 (conv => whnf); repeat ((first | (refine And.intro ?_ ?_; (focus ((repeat' (first | exact trivial | refine And.intro rfl ?_)); done))) | (refine And.intro ?_ ?_; (focus (first | omega | (dsimp -iota only; omega) | (simp -iota; omega) | (simp -iota; done) | decide)))); conv => whnf)))
            all_goals
              refine AWP.of_ent ?_ key
              exact Ent.mk' [some 0, some 1, some 3] (by kernel_rfl) (by repeat' first | exact trivial | refine And.intro (AVE.refl _) ?_ | refine And.intro (AVE.int (by first | rfl | omega | (dsimp only; omega) | (simp -iota; omega) | (simp -iota; done))) ?_ | refine And.intro (AVE.bool (by assumption)) ?_ | refine And.intro (AVE.len (by first | rfl | omega | (dsimp only; omega) | (simp -iota; omega) | (simp -iota; done))) ?_) (by repeat' (first | exact trivial | refine ⟨⟨_, rfl, ChE.refl _⟩, ?_⟩))
          refine AWP.loop (X := { k : Nat // k ≤ (lsN f'.now).length }) (fun k => [(0, rowC A), (3, .ptr 0 0), (4, .ptr 1 0), (5, AV.int .i64 i), (16, .iv (.sl 2 (lsN f'.now).length (enF (lsN f'.now)))), (17, .iv (.sl 1 f'.live.length (uF f'.live.toArray))), (18, .iv (.sl 2 (lsN f'.now).length (enF (lsN f'.now)))), (19, .iv (.sl 1 f'.live.length (uF f'.live.toArray))), (20, AV.int .i64 k.1)]) (fun k => ⟨3, [(0, .sem (Nest f'.H)), (1, .cells 57 [.row 2 1 0 (f'.ds.length + 1), AV.int .u64 f'.last]), (2, .rowc 53 1 (f'.ds.length + 1) (siF f'))]⟩) (fun k => (lsN f'.now).length - k.1) (⟨0, Nat.zero_le _⟩) ?_ fun k => AWP.go (S := sch5) (cfgOk _ _) (.of_eq (by kernel_rfl)) ?_
          · exact Ent.mk' [some 0, some 1, some 2] (by kernel_rfl) (by repeat' first | exact trivial | refine And.intro (AVE.refl _) ?_ | refine And.intro (AVE.int (by first | rfl | omega | (dsimp only; omega) | (simp -iota; omega) | (simp -iota; done))) ?_ | refine And.intro (AVE.bool (by assumption)) ?_ | refine And.intro (AVE.len (by first | rfl | omega | (dsimp only; omega) | (simp -iota; omega) | (simp -iota; done))) ?_) (by repeat' (first | exact trivial | refine ⟨⟨_, rfl, ChE.refl _⟩, ?_⟩))
          · obtain ⟨k, hk⟩ := k
            (conv => whnf); repeat ((first | (refine And.intro ?_ ?_; (focus ((repeat' (first | exact trivial | refine And.intro rfl ?_)); done))) | (refine And.intro ?_ ?_; (focus (first | omega | (dsimp -iota only; omega) | (simp -iota; omega) | (simp -iota; done) | decide)))); conv => whnf)
            refine branchB_of (fun gk => ?_) (fun gk => ?_) <;> (first | replace gk := not_t gk | replace gk := not_f gk | skip) <;> (first | replace gk := of_decide_eq_true gk | replace gk := of_decide_eq_false gk | skip) <;> (first | replace gk := Classical.not_not.1 gk | skip) <;> (try dsimp only at gk)
            · (conv => whnf); repeat ((first | (refine And.intro ?_ ?_; (focus ((repeat' (first | exact trivial | refine And.intro rfl ?_)); done))) | (refine And.intro ?_ ?_; (focus (first | omega | (dsimp -iota only; omega) | (simp -iota; omega) | (simp -iota; done) | decide)))); conv => whnf)
              refine branchB_of (fun q => ?_) (fun q => ?_) <;> (first | replace q := not_t q | replace q := not_f q | skip) <;> (first | replace q := of_decide_eq_true q | replace q := of_decide_eq_false q | skip) <;> (first | replace q := Classical.not_not.1 q | skip) <;> (try dsimp only at q)
              · exact absurd q (by simp)
              (conv => whnf); repeat ((first | (refine And.intro ?_ ?_; (focus ((repeat' (first | exact trivial | refine And.intro rfl ?_)); done))) | (refine And.intro ?_ ?_; (focus (first | omega | (dsimp -iota only; omega) | (simp -iota; omega) | (simp -iota; done) | decide)))); conv => whnf)
              refine ⟨⟨k + 1, by omega⟩, Ent.mk' [some 0, some 1, some 2] (by kernel_rfl) (by repeat' first | exact trivial | refine And.intro (AVE.refl _) ?_ | refine And.intro (AVE.int (by first | rfl | omega | (dsimp only; omega) | (simp -iota; omega) | (simp -iota; done))) ?_ | refine And.intro (AVE.bool (by assumption)) ?_ | refine And.intro (AVE.len (by first | rfl | omega | (dsimp only; omega) | (simp -iota; omega) | (simp -iota; done))) ?_) (by repeat' (first | exact trivial | refine ⟨⟨_, rfl, ChE.refl _⟩, ?_⟩)), ?_⟩
              show (lsN f'.now).length - (k + 1) < (lsN f'.now).length - k
              omega
            · (conv => whnf); repeat ((first | (refine And.intro ?_ ?_; (focus ((repeat' (first | exact trivial | refine And.intro rfl ?_)); done))) | (refine And.intro ?_ ?_; (focus (first | omega | (dsimp -iota only; omega) | (simp -iota; omega) | (simp -iota; done) | decide)))); conv => whnf)
              refine AWP.loop (X := { j : Nat // j ≤ f'.live.length }) (fun j => [(0, rowC A), (3, .ptr 0 0), (4, .ptr 1 0), (5, AV.int .i64 i), (17, .iv (.sl 1 f'.live.length (uF f'.live.toArray))), (19, .iv (.sl 1 f'.live.length (uF f'.live.toArray))), (21, AV.int .i64 j.1)]) (fun j => ⟨3, [(0, .sem (Nest f'.H)), (1, .cells 57 [.row 2 1 0 (f'.ds.length + 1), AV.int .u64 f'.last]), (2, .rowc 53 1 (f'.ds.length + 1) (siF f'))]⟩) (fun j => f'.live.length - j.1) (⟨0, Nat.zero_le _⟩) ?_ fun j => AWP.go (S := sch5) (cfgOk _ _) (.of_eq (by kernel_rfl)) ?_
              · exact Ent.mk' [some 0, some 1, some 2] (by kernel_rfl) (by repeat' first | exact trivial | refine And.intro (AVE.refl _) ?_ | refine And.intro (AVE.int (by first | rfl | omega | (dsimp only; omega) | (simp -iota; omega) | (simp -iota; done))) ?_ | refine And.intro (AVE.bool (by assumption)) ?_ | refine And.intro (AVE.len (by first | rfl | omega | (dsimp only; omega) | (simp -iota; omega) | (simp -iota; done))) ?_) (by repeat' (first | exact trivial | refine ⟨⟨_, rfl, ChE.refl _⟩, ?_⟩))
              · obtain ⟨j, hj⟩ := j
                (conv => whnf); repeat ((first | (refine And.intro ?_ ?_; (focus ((repeat' (first | exact trivial | refine And.intro rfl ?_)); done))) | (refine And.intro ?_ ?_; (focus (first | omega | (dsimp -iota only; omega) | (simp -iota; omega) | (simp -iota; done) | decide)))); conv => whnf)
                refine branchB_of (fun gj => ?_) (fun gj => ?_) <;> (first | replace gj := not_t gj | replace gj := not_f gj | skip) <;> (first | replace gj := of_decide_eq_true gj | replace gj := of_decide_eq_false gj | skip) <;> (first | replace gj := Classical.not_not.1 gj | skip) <;> (try dsimp only at gj)
                · (conv => whnf); repeat ((first | (refine And.intro ?_ ?_; (focus ((repeat' (first | exact trivial | refine And.intro rfl ?_)); done))) | (refine And.intro ?_ ?_; (focus (first | omega | (dsimp -iota only; omega) | (simp -iota; omega) | (simp -iota; done) | decide)))); conv => whnf)
                  refine branchB_of (fun q => ?_) (fun q => ?_) <;> (first | replace q := not_t q | replace q := not_f q | skip) <;> (first | replace q := of_decide_eq_true q | replace q := of_decide_eq_false q | skip) <;> (first | replace q := Classical.not_not.1 q | skip) <;> (try dsimp only at q)
                  · exact absurd rfl q
                  (conv => whnf); repeat ((first | (refine And.intro ?_ ?_; (focus ((repeat' (first | exact trivial | refine And.intro rfl ?_)); done))) | (refine And.intro ?_ ?_; (focus (first | omega | (dsimp -iota only; omega) | (simp -iota; omega) | (simp -iota; done) | decide)))); conv => whnf)
                  refine ⟨⟨j + 1, by omega⟩, Ent.mk' [some 0, some 1, some 2] (by kernel_rfl) (by repeat' first | exact trivial | refine And.intro (AVE.refl _) ?_ | refine And.intro (AVE.int (by first | rfl | omega | (dsimp only; omega) | (simp -iota; omega) | (simp -iota; done))) ?_ | refine And.intro (AVE.bool (by assumption)) ?_ | refine And.intro (AVE.len (by first | rfl | omega | (dsimp only; omega) | (simp -iota; omega) | (simp -iota; done))) ?_) (by repeat' (first | exact trivial | refine ⟨⟨_, rfl, ChE.refl _⟩, ?_⟩)), ?_⟩
                  show f'.live.length - (j + 1) < f'.live.length - j
                  omega
                · (conv => whnf); repeat ((first | (refine And.intro ?_ ?_; (focus ((repeat' (first | exact trivial | refine And.intro rfl ?_)); done))) | (refine And.intro ?_ ?_; (focus (first | omega | (dsimp -iota only; omega) | (simp -iota; omega) | (simp -iota; done) | decide)))); conv => whnf)
                  refine ⟨⟨i + 1, f', by omega, by omega, hf', by omega, by omega⟩, Ent.trans (HEnt.ent (HEnt.close [1, 2] 1 f'.RH ?_ ?_)) (Ent.mk' [some 0, some 1] ?_ ?_ ?_), ?_⟩
                  · kernel_rfl
                  · repeat' first | exact trivial | refine ⟨rfl, ?_⟩
                  · kernel_rfl
                  · exact ⟨AVE.refl _, AVE.refl _, AVE.refl _, AVE.int (by simp), trivial⟩
                  · (repeat' first | exact trivial | refine ⟨⟨_, rfl, ChE.refl _⟩, ?_⟩)
                  · show 80 - (i + 1) < 80 - i
                    omega
    refine AWP.loop (X := { k : Nat // k ≤ (lsN f'.now).length }) (fun k => [(0, rowC A), (3, .ptr 0 0), (4, .ptr 1 0), (5, AV.int .i64 i), (16, .iv (.sl 2 (lsN f'.now).length (enF (lsN f'.now)))), (17, .iv (.sl 1 f'.live.length (uF f'.live.toArray))), (18, .iv (.sl 2 (lsN f'.now).length (enF (lsN f'.now)))), (19, .iv (.sl 1 f'.live.length (uF f'.live.toArray))), (20, AV.int .i64 k.1)]) (fun k => ⟨3, [(0, .sem (Nest f'.H)), (1, .cells 57 [.row 2 1 0 (f'.ds.length + 1), AV.int .u64 f'.last]), (2, .rowc 53 1 (f'.ds.length + 1) (siF f'))]⟩) (fun k => (lsN f'.now).length - k.1) (⟨0, Nat.zero_le _⟩) ?_ fun k => AWP.go (S := sch5) (cfgOk _ _) (.of_eq (by kernel_rfl)) ?_
    · exact Ent.mk' [some 0, some 1, some 2] (by kernel_rfl) (by repeat' first | exact trivial | refine And.intro (AVE.refl _) ?_ | refine And.intro (AVE.int (by first | rfl | omega | (dsimp only; omega) | (simp -iota; omega) | (simp -iota; done))) ?_ | refine And.intro (AVE.bool (by assumption)) ?_ | refine And.intro (AVE.len (by first | rfl | omega | (dsimp only; omega) | (simp -iota; omega) | (simp -iota; done))) ?_) (by repeat' (first | exact trivial | refine ⟨⟨_, rfl, ChE.refl _⟩, ?_⟩))
    · obtain ⟨k, hk⟩ := k
      (conv => whnf); repeat ((first | (refine And.intro ?_ ?_; (focus ((repeat' (first | exact trivial | refine And.intro rfl ?_)); done))) | (refine And.intro ?_ ?_; (focus (first | omega | (dsimp -iota only; omega) | (simp -iota; omega) | (simp -iota; done) | decide)))); conv => whnf)
      refine branchB_of (fun gk => ?_) (fun gk => ?_) <;> (first | replace gk := not_t gk | replace gk := not_f gk | skip) <;> (first | replace gk := of_decide_eq_true gk | replace gk := of_decide_eq_false gk | skip) <;> (first | replace gk := Classical.not_not.1 gk | skip) <;> (try dsimp only at gk)
      · (conv => whnf); repeat ((first | (refine And.intro ?_ ?_; (focus ((repeat' (first | exact trivial | refine And.intro rfl ?_)); done))) | (refine And.intro ?_ ?_; (focus (first | omega | (dsimp -iota only; omega) | (simp -iota; omega) | (simp -iota; done) | decide)))); conv => whnf)
        refine branchB_of (fun q => ?_) (fun q => ?_) <;> (first | replace q := not_t q | replace q := not_f q | skip) <;> (first | replace q := of_decide_eq_true q | replace q := of_decide_eq_false q | skip) <;> (first | replace q := Classical.not_not.1 q | skip) <;> (try dsimp only at q)
        · exact absurd q (by simp)
        (conv => whnf); repeat ((first | (refine And.intro ?_ ?_; (focus ((repeat' (first | exact trivial | refine And.intro rfl ?_)); done))) | (refine And.intro ?_ ?_; (focus (first | omega | (dsimp -iota only; omega) | (simp -iota; omega) | (simp -iota; done) | decide)))); conv => whnf)
        refine ⟨⟨k + 1, by omega⟩, Ent.mk' [some 0, some 1, some 2] (by kernel_rfl) (by repeat' first | exact trivial | refine And.intro (AVE.refl _) ?_ | refine And.intro (AVE.int (by first | rfl | omega | (dsimp only; omega) | (simp -iota; omega) | (simp -iota; done))) ?_ | refine And.intro (AVE.bool (by assumption)) ?_ | refine And.intro (AVE.len (by first | rfl | omega | (dsimp only; omega) | (simp -iota; omega) | (simp -iota; done))) ?_) (by repeat' (first | exact trivial | refine ⟨⟨_, rfl, ChE.refl _⟩, ?_⟩)), ?_⟩
        show (lsN f'.now).length - (k + 1) < (lsN f'.now).length - k
        omega
      · (conv => whnf); repeat ((first | (refine And.intro ?_ ?_; (focus ((repeat' (first | exact trivial | refine And.intro rfl ?_)); done))) | (refine And.intro ?_ ?_; (focus (first | omega | (dsimp -iota only; omega) | (simp -iota; omega) | (simp -iota; done) | decide)))); conv => whnf)
        refine AWP.loop (X := { j : Nat // j ≤ f'.live.length }) (fun j => [(0, rowC A), (3, .ptr 0 0), (4, .ptr 1 0), (5, AV.int .i64 i), (17, .iv (.sl 1 f'.live.length (uF f'.live.toArray))), (19, .iv (.sl 1 f'.live.length (uF f'.live.toArray))), (21, AV.int .i64 j.1)]) (fun j => ⟨3, [(0, .sem (Nest f'.H)), (1, .cells 57 [.row 2 1 0 (f'.ds.length + 1), AV.int .u64 f'.last]), (2, .rowc 53 1 (f'.ds.length + 1) (siF f'))]⟩) (fun j => f'.live.length - j.1) (⟨0, Nat.zero_le _⟩) ?_ fun j => AWP.go (S := sch5) (cfgOk _ _) (.of_eq (by kernel_rfl)) ?_
        · exact Ent.mk' [some 0, some 1, some 2] (by kernel_rfl) (by repeat' first | exact trivial | refine And.intro (AVE.refl _) ?_ | refine And.intro (AVE.int (by first | rfl | omega | (dsimp only; omega) | (simp -iota; omega) | (simp -iota; done))) ?_ | refine And.intro (AVE.bool (by assumption)) ?_ | refine And.intro (AVE.len (by first | rfl | omega | (dsimp only; omega) | (simp -iota; omega) | (simp -iota; done))) ?_) (by repeat' (first | exact trivial | refine ⟨⟨_, rfl, ChE.refl _⟩, ?_⟩))
        · obtain ⟨j, hj⟩ := j
          (conv => whnf); repeat ((first | (refine And.intro ?_ ?_; (focus ((repeat' (first | exact trivial | refine And.intro rfl ?_)); done))) | (refine And.intro ?_ ?_; (focus (first | omega | (dsimp -iota only; omega) | (simp -iota; omega) | (simp -iota; done) | decide)))); conv => whnf)
          refine branchB_of (fun gj => ?_) (fun gj => ?_) <;> (first | replace gj := not_t gj | replace gj := not_f gj | skip) <;> (first | replace gj := of_decide_eq_true gj | replace gj := of_decide_eq_false gj | skip) <;> (first | replace gj := Classical.not_not.1 gj | skip) <;> (try dsimp only at gj)
          · (conv => whnf); repeat ((first | (refine And.intro ?_ ?_; (focus ((repeat' (first | exact trivial | refine And.intro rfl ?_)); done))) | (refine And.intro ?_ ?_; (focus (first | omega | (dsimp -iota only; omega) | (simp -iota; omega) | (simp -iota; done) | decide)))); conv => whnf)
            refine branchB_of (fun q => ?_) (fun q => ?_) <;> (first | replace q := not_t q | replace q := not_f q | skip) <;> (first | replace q := of_decide_eq_true q | replace q := of_decide_eq_false q | skip) <;> (first | replace q := Classical.not_not.1 q | skip) <;> (try dsimp only at q)
            · exact absurd rfl q
            (conv => whnf); repeat ((first | (refine And.intro ?_ ?_; (focus ((repeat' (first | exact trivial | refine And.intro rfl ?_)); done))) | (refine And.intro ?_ ?_; (focus (first | omega | (dsimp -iota only; omega) | (simp -iota; omega) | (simp -iota; done) | decide)))); conv => whnf)
            refine ⟨⟨j + 1, by omega⟩, Ent.mk' [some 0, some 1, some 2] (by kernel_rfl) (by repeat' first | exact trivial | refine And.intro (AVE.refl _) ?_ | refine And.intro (AVE.int (by first | rfl | omega | (dsimp only; omega) | (simp -iota; omega) | (simp -iota; done))) ?_ | refine And.intro (AVE.bool (by assumption)) ?_ | refine And.intro (AVE.len (by first | rfl | omega | (dsimp only; omega) | (simp -iota; omega) | (simp -iota; done))) ?_) (by repeat' (first | exact trivial | refine ⟨⟨_, rfl, ChE.refl _⟩, ?_⟩)), ?_⟩
            show f'.live.length - (j + 1) < f'.live.length - j
            omega
          · (conv => whnf); repeat ((first | (refine And.intro ?_ ?_; (focus ((repeat' (first | exact trivial | refine And.intro rfl ?_)); done))) | (refine And.intro ?_ ?_; (focus (first | omega | (dsimp -iota only; omega) | (simp -iota; omega) | (simp -iota; done) | decide)))); conv => whnf)
            refine ⟨⟨i + 1, f', by omega, by omega, hf', by omega, by omega⟩, Ent.trans (HEnt.ent (HEnt.close [1, 2] 1 f'.RH ?_ ?_)) (Ent.mk' [some 0, some 1] ?_ ?_ ?_), ?_⟩
            · kernel_rfl
            · repeat' first | exact trivial | refine ⟨rfl, ?_⟩
            · kernel_rfl
            · exact ⟨AVE.refl _, AVE.refl _, AVE.refl _, AVE.int (by simp), trivial⟩
            · (repeat' first | exact trivial | refine ⟨⟨_, rfl, ChE.refl _⟩, ?_⟩)
            · show 80 - (i + 1) < 80 - i
              omega
end Go.Proofs.Yteeifedpabcehaa.Ax
