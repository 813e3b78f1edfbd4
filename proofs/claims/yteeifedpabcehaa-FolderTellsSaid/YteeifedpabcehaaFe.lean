/-
  Chapter 06: FolderKeeps, the walk.
-/
import Derived.Test.YteeifedpabcehaaQc
namespace Go.Proofs.Yteeifedpabcehaa.Ax
open Go.RowKit
set_option maxRecDepth 100000
theorem afind_adel {β : Type} (l : List (List UInt8 × β)) (s t : List UInt8) : afind (adel l s) t = if t = s then none else afind l t := by
  unfold afind adel
  rw [List.find?_filter]
  split
  · rename_i h
    subst h
    rw [List.find?_eq_none.2 (by intro p _; simp)]
    rfl
  · rename_i h
    congr 2
    funext p
    by_cases e : p.1 = t
    · simp [e, h]
    · simp [e]
theorem afind_aput {β : Type} (s t : List UInt8) (n : β) : ∀ l : List (List UInt8 × β), afind (aput l s n) t = if t = s then some n else afind l t
  | [] => by
    unfold aput afind
    by_cases h : t = s
    · subst h; simp
    · have h' : ¬ s = t := fun e => h e.symm
      simp [h, h']
  | p :: ps => by
    have ih := afind_aput s t n ps
    unfold aput
    by_cases h : p.1 = s
    · rw [if_pos h]
      by_cases h2 : t = s
      · subst h2; simp [afind]
      · have h3 : ¬ s = t := fun e => h2 e.symm
        have h4 : ¬ p.1 = t := fun e => h2 (e.symm.trans h)
        simp [afind, h2, h3, h4]
    · rw [if_neg h]
      by_cases h4 : p.1 = t
      · have h5 : ¬ t = s := fun e => h (h4.trans e)
        simp [afind, h4, h5]
      · have e1 : afind (p :: aput ps s n) t = afind (aput ps s n) t := by simp [afind, h4]
        have e2 : afind (p :: ps) t = afind ps t := by simp [afind, h4]
        rw [e1, ih, e2]
theorem aput_length {β : Type} {s : List UInt8} {n : β} : ∀ l : List (List UInt8 × β), (aput l s n).length ≤ l.length + 1
  | [] => by simp [aput]
  | q :: qs => by
    unfold aput
    have := aput_length (s := s) (n := n) qs
    split <;> simp <;> omega
theorem adel_length {β : Type} (l : List (List UInt8 × β)) (s : List UInt8) : (adel l s).length ≤ l.length := List.length_filter_le _ _
def kp : List UInt8 := [107, 101, 101, 112]
/-- The name is not there yet. -/
def Off (i : Nat) (m : NM) : Prop := afind m kp = none ∧ m.length ≤ i
theorem off_step {i : Nat} {c : Call} (h1 : c.s ≠ kp) (h2 : c.t ≠ kp) (D : Deed) (hD : Does c D) (m : NM) (h : Off i m) : Off (i + 1) (D.on m) := by
  obtain ⟨h3, h4⟩ := h
  cases hD with
  | mk n _ =>
    refine ⟨?_, ?_⟩
    · show afind (aput m c.s n) kp = none
      rw [afind_aput, if_neg (Ne.symm h1)]; exact h3
    · have := aput_length (s := c.s) (n := n) m
      show (aput m c.s n).length ≤ _
      omega
  | mv n _ _ _ =>
    refine ⟨?_, ?_⟩
    · show afind (aput (adel m c.s) c.t n) kp = none
      rw [afind_aput, if_neg (Ne.symm h2), afind_adel]; split <;> first | rfl | exact h3
    · have := aput_length (s := c.t) (n := n) (adel m c.s)
      have := adel_length m c.s
      show (aput (adel m c.s) c.t n).length ≤ _
      omega
  | rm _ =>
    refine ⟨?_, ?_⟩
    · show afind (adel m c.s) kp = none
      rw [afind_adel]; split <;> first | rfl | exact h3
    · have := adel_length m c.s
      show (adel m c.s).length ≤ _
      omega
/-- The name is there. -/
def On (n : Nat) (m : NM) : Prop := afind m kp = some n
theorem on_step {n : Nat} {c : Call} (h1 : c.s ≠ kp) (h2 : c.t ≠ kp) (D : Deed) (hD : Does c D) (m : NM) (h : On n m) : On n (D.on m) := by
  cases hD with
  | mk k _ =>
    show afind (aput m c.s k) kp = _
    rw [afind_aput, if_neg (Ne.symm h1)]; exact h
  | mv k _ _ _ =>
    show afind (aput (adel m c.s) c.t k) kp = _
    rw [afind_aput, if_neg (Ne.symm h2), afind_adel, if_neg (Ne.symm h1)]; exact h
  | rm _ =>
    show afind (adel m c.s) kp = _
    rw [afind_adel, if_neg (Ne.symm h1)]; exact h
structure K1 (A : List Call) where
  i : Nat
  f : FD
  hi : i ≤ 60
  hil : i ≤ A.length
  hf : f.In (Off i)
  hd : f.ds.length ≤ i
  hl : f.last ≤ i
structure K2 (B : List Call) (n : Nat) where
  i : Nat
  f : FD
  hi : i ≤ 60
  hil : i ≤ B.length
  hf : f.In (On n)
  hd : f.ds.length ≤ i
  hl : f.last ≤ 61 + i
@[reducible] def rowC (l : List Call) : AV := .iv (.sl 4 l.length fun i => callI (l.getD i default))
set_option maxHeartbeats 1000000 in
theorem keeps_law (A B : List Call) (hknows : AFn Go.Proofs.Try.prog 13 [] ⟨0, []⟩ (fun _ : Unit => AV.bool true) (fun _ => ⟨0, []⟩)) : Law Go.Proofs.Try.prog 6 [rowC A, rowC B] := by
  refine ACall.fin ?_
  refine ACall.walkF (C := cfg 124 0) (cfgOk _ _) [] (fn := Go.Proofs.Try.f6) (by kernel_rfl) (by kernel_rfl) rfl (by kernel_rfl) (by kernel_rfl) rfl rfl fun hlen hheap => ?_
  obtain ⟨hl1, hl2, _⟩ := hlen
  simp only [lenF] at hl1 hl2
  (conv => whnf); repeat ((first | (refine And.intro ?_ ?_; (focus ((repeat' (first | exact trivial | refine And.intro rfl ?_)); done))) | (refine And.intro ?_ ?_; (focus (first | omega | (dsimp -iota only; omega) | (simp -iota; omega) | (simp -iota; done) | decide)))); conv => whnf)
  refine AFn.use [] (new_ok) (by kernel_rfl) rfl (by repeat' first | exact trivial | refine ⟨rfl, ?_⟩) fun _ => ?_
  (conv => whnf); repeat ((first | (refine And.intro ?_ ?_; (focus ((repeat' (first | exact trivial | refine And.intro rfl ?_)); done))) | (refine And.intro ?_ ?_; (focus (first | omega | (dsimp -iota only; omega) | (simp -iota; omega) | (simp -iota; done) | decide)))); conv => whnf)
  refine AWP.merge (Y := K1 A) (fun y => [(1, rowC B), (5, .ptr 0 0)]) (fun y => one y.f.H) 0 (fun y => ?_) ?_
  · obtain ⟨i, f, hi, hil, hf, hd, hl⟩ := y
    have hno := hf.now
    have hmay : mayB kp = true := by decide
    have hc0 : f.createE kp = 0 := by
      have := hno.2
      simp [FD.createE, hmay, hno.1, show ¬ 256 ≤ f.now.length from by omega]
    (conv => whnf); repeat ((first | (refine And.intro ?_ ?_; (focus ((repeat' (first | exact trivial | refine And.intro rfl ?_)); done))) | (refine And.intro ?_ ?_; (focus (first | omega | (dsimp -iota only; omega) | (simp -iota; omega) | (simp -iota; done) | decide)))); conv => whnf)
    refine AFn.use [0] (create_ok f (by omega) (by omega) kp) (by kernel_rfl) rfl (by repeat' first | exact trivial | refine ⟨rfl, ?_⟩) fun _ => ?_
    have e1 : f.createN kp = f.last + 1 := if_pos hc0
    have e2 : f.create kp = FD.did ⟨f.safe, f.now, f.ds, f.last + 1⟩ (.mk kp (f.last + 1)) := if_pos hc0
    rw [e1, e2, hc0]
    have hg : (FD.synced (FD.did ⟨f.safe, f.now, f.ds, f.last + 1⟩ (.mk kp (f.last + 1)))).In (On (f.last + 1)) := by
      refine ⟨rfl, fun k _ => ?_⟩
      show On (f.last + 1) (onAll (aput f.now kp (f.last + 1)) (List.take k []))
      rw [List.take_nil]
      show afind (aput f.now kp (f.last + 1)) kp = some (f.last + 1)
      rw [afind_aput, if_pos rfl]
    (conv => whnf); repeat ((first | (refine And.intro ?_ ?_; (focus ((repeat' (first | exact trivial | refine And.intro rfl ?_)); done))) | (refine And.intro ?_ ?_; (focus (first | omega | (dsimp -iota only; omega) | (simp -iota; omega) | (simp -iota; done) | decide)))); conv => whnf)
    refine AFn.use [0] (sync_ok _) (by kernel_rfl) rfl (by repeat' first | exact trivial | refine ⟨rfl, ?_⟩) fun _ => ?_
    generalize hgd : FD.synced (FD.did ⟨f.safe, f.now, f.ds, f.last + 1⟩ (.mk kp (f.last + 1))) = g at *
    have hgds : g.ds.length = 0 := by rw [← hgd]; rfl
    have hgl : g.last = f.last + 1 := by rw [← hgd]; rfl
    obtain ⟨n, hn⟩ : ∃ n, n = f.last + 1 := ⟨_, rfl⟩
    rw [← hn] at hg hgl
    rw [← hn]
    have hn61 : n ≤ 61 := by omega
    clear hgd hn e1 e2 hc0 hno hf hd
    (conv => whnf); repeat ((first | (refine And.intro ?_ ?_; (focus ((repeat' (first | exact trivial | refine And.intro rfl ?_)); done))) | (refine And.intro ?_ ?_; (focus (first | omega | (dsimp -iota only; omega) | (simp -iota; omega) | (simp -iota; done) | decide)))); conv => whnf)
    refine AWP.merge (Y := Unit) (fun u => []) (fun u => ⟨0, []⟩) 2 (fun u => ?_) ?_
    · (conv => whnf); repeat ((first | (refine And.intro ?_ ?_; (focus ((repeat' (first | exact trivial | refine And.intro rfl ?_)); done))) | (refine And.intro ?_ ?_; (focus (first | omega | (dsimp -iota only; omega) | (simp -iota; omega) | (simp -iota; done) | decide)))); conv => whnf)
      refine AFn.use [] (hknows) (by kernel_rfl) rfl (by repeat' first | exact trivial | refine ⟨rfl, ?_⟩) fun _ => ?_
      (conv => whnf); repeat ((first | (refine And.intro ?_ ?_; (focus ((repeat' (first | exact trivial | refine And.intro rfl ?_)); done))) | (refine And.intro ?_ ?_; (focus (first | omega | (dsimp -iota only; omega) | (simp -iota; omega) | (simp -iota; done) | decide)))); conv => whnf)
      exact ⟨_, _, Ent.mk' (e' := [(0, AV.bool true)]) (H' := ⟨0, []⟩) [] (by kernel_rfl) ⟨AVE.of_eq rfl, trivial⟩ trivial, (), rfl, rfl⟩
    refine AWP.loop (X := K2 B n) (fun x => [(1, rowC B), (5, .ptr 0 0), (7, AV.int .u64 n), (9, AV.int .i64 x.i)]) (fun x => one x.f.H) (fun x => 60 - x.i) (⟨0, g, by omega, by omega, hg, by omega, by omega⟩) ?_ fun x => AWP.go (S := []) (cfgOk _ _) (.of_eq (by kernel_rfl)) ?_
    · exact Ent.mk' [some 0] (by kernel_rfl) (by repeat' first | exact trivial | refine And.intro (AVE.refl _) ?_ | refine And.intro (AVE.int (by first | rfl | omega | (dsimp only; omega) | (simp -iota; omega) | (simp -iota; done))) ?_ | refine And.intro (AVE.bool (by assumption)) ?_ | refine And.intro (AVE.len (by first | rfl | omega | (dsimp only; omega) | (simp -iota; omega) | (simp -iota; done))) ?_) (by repeat' (first | exact trivial | refine ⟨⟨_, rfl, ChE.refl _⟩, ?_⟩))
    · obtain ⟨j, p, hj, hjl, hp, hpd, hpl⟩ := x
      have hix : ((j : Nat) : Int).toNat = j := by simp
      (conv => whnf); repeat ((first | (refine And.intro ?_ ?_; (focus ((repeat' (first | exact trivial | refine And.intro rfl ?_)); done))) | (refine And.intro ?_ ?_; (focus (first | omega | (dsimp -iota only; omega) | (simp -iota; omega) | (simp -iota; done) | decide)))); conv => whnf)
      refine branchB_of (fun h => ?_) (fun h => ?_) <;> (first | replace h := not_t h | replace h := not_f h | skip) <;> (first | replace h := of_decide_eq_true h | replace h := of_decide_eq_false h | skip) <;> (first | replace h := Classical.not_not.1 h | skip) <;> (try dsimp only at h)
      · (conv => whnf); repeat ((first | (refine And.intro ?_ ?_; (focus ((repeat' (first | exact trivial | refine And.intro rfl ?_)); done))) | (refine And.intro ?_ ?_; (focus (first | omega | (dsimp -iota only; omega) | (simp -iota; omega) | (simp -iota; done) | decide)))); conv => whnf)
        refine branchB_of (fun h2 => ?_) (fun h2 => ?_) <;> (first | replace h2 := not_t h2 | replace h2 := not_f h2 | skip) <;> (first | replace h2 := of_decide_eq_true h2 | replace h2 := of_decide_eq_false h2 | skip) <;> (first | replace h2 := Classical.not_not.1 h2 | skip) <;> (try dsimp only at h2)
        · (conv => whnf); repeat ((first | (refine And.intro ?_ ?_; (focus ((repeat' (first | exact trivial | refine And.intro rfl ?_)); done))) | (refine And.intro ?_ ?_; (focus (first | omega | (dsimp -iota only; omega) | (simp -iota; omega) | (simp -iota; done) | decide)))); conv => whnf)
          refine branchB_of (fun g1 => ?_) (fun g1 => ?_) <;> (first | replace g1 := not_t g1 | replace g1 := not_f g1 | skip) <;> (first | replace g1 := of_decide_eq_true g1 | replace g1 := of_decide_eq_false g1 | skip) <;> (first | replace g1 := Classical.not_not.1 g1 | skip) <;> (try dsimp only at g1)
          · (conv => whnf); repeat ((first | (refine And.intro ?_ ?_; (focus ((repeat' (first | exact trivial | refine And.intro rfl ?_)); done))) | (refine And.intro ?_ ?_; (focus (first | omega | (dsimp -iota only; omega) | (simp -iota; omega) | (simp -iota; done) | decide)))); conv => whnf)
            refine ⟨⟨j + 1, p, by omega, by omega, hp, by omega, by omega⟩, Ent.mk' [some 0] (by kernel_rfl) (by repeat' first | exact trivial | refine And.intro (AVE.refl _) ?_ | refine And.intro (AVE.int (by first | rfl | omega | (dsimp only; omega) | (simp -iota; omega) | (simp -iota; done))) ?_ | refine And.intro (AVE.bool (by assumption)) ?_ | refine And.intro (AVE.len (by first | rfl | omega | (dsimp only; omega) | (simp -iota; omega) | (simp -iota; done))) ?_) (by repeat' (first | exact trivial | refine ⟨⟨_, rfl, ChE.refl _⟩, ?_⟩)), ?_⟩
            show 60 - (j + 1) < 60 - j
            omega
          (conv => whnf); repeat ((first | (refine And.intro ?_ ?_; (focus ((repeat' (first | exact trivial | refine And.intro rfl ?_)); done))) | (refine And.intro ?_ ?_; (focus (first | omega | (dsimp -iota only; omega) | (simp -iota; omega) | (simp -iota; done) | decide)))); conv => whnf)
          refine branchB_of (fun g2 => ?_) (fun g2 => ?_) <;> (first | replace g2 := not_t g2 | replace g2 := not_f g2 | skip) <;> (first | replace g2 := of_decide_eq_true g2 | replace g2 := of_decide_eq_false g2 | skip) <;> (first | replace g2 := Classical.not_not.1 g2 | skip) <;> (try dsimp only at g2)
          · (conv => whnf); repeat ((first | (refine And.intro ?_ ?_; (focus ((repeat' (first | exact trivial | refine And.intro rfl ?_)); done))) | (refine And.intro ?_ ?_; (focus (first | omega | (dsimp -iota only; omega) | (simp -iota; omega) | (simp -iota; done) | decide)))); conv => whnf)
            refine ⟨⟨j + 1, p, by omega, by omega, hp, by omega, by omega⟩, Ent.mk' [some 0] (by kernel_rfl) (by repeat' first | exact trivial | refine And.intro (AVE.refl _) ?_ | refine And.intro (AVE.int (by first | rfl | omega | (dsimp only; omega) | (simp -iota; omega) | (simp -iota; done))) ?_ | refine And.intro (AVE.bool (by assumption)) ?_ | refine And.intro (AVE.len (by first | rfl | omega | (dsimp only; omega) | (simp -iota; omega) | (simp -iota; done))) ?_) (by repeat' (first | exact trivial | refine ⟨⟨_, rfl, ChE.refl _⟩, ?_⟩)), ?_⟩
            show 60 - (j + 1) < 60 - j
            omega
          (conv => whnf); repeat ((first | (refine And.intro ?_ ?_; (focus ((repeat' (first | exact trivial | refine And.intro rfl ?_)); done))) | (refine And.intro ?_ ?_; (focus (first | omega | (dsimp -iota only; omega) | (simp -iota; omega) | (simp -iota; done) | decide)))); conv => whnf)
          generalize B.getD ((j : Nat) : Int).toNat default = c at *
          have hst := does_sizes p c
          refine AFn.use [0] (does_ok p (by omega) (by omega) c) (by kernel_rfl) rfl (by repeat' first | exact trivial | refine ⟨rfl, ?_⟩) fun _ => ?_
          have hp' := hp.does (fun m h => h) (on_step g1 g2)
          generalize p.does c = p' at hst hp'
          obtain ⟨hst1, hst2⟩ := hst
          have hfn : p'.findN kp = n := by have := hp'.now; unfold On at this; simp [FD.findN, this]
          have hfb : p'.findB kp = true := by have := hp'.now; unfold On at this; simp [FD.findB, this]
          (conv => whnf); repeat ((first | (refine And.intro ?_ ?_; (focus ((repeat' (first | exact trivial | refine And.intro rfl ?_)); done))) | (refine And.intro ?_ ?_; (focus (first | omega | (dsimp -iota only; omega) | (simp -iota; omega) | (simp -iota; done) | decide)))); conv => whnf)
          refine AFn.use [0] (find_ok p' kp) (by kernel_rfl) rfl (by repeat' first | exact trivial | refine ⟨rfl, ?_⟩) fun _ => ?_
          rw [hfn, hfb]
          (conv => whnf); repeat ((first | (refine And.intro ?_ ?_; (focus ((repeat' (first | exact trivial | refine And.intro rfl ?_)); done))) | (refine And.intro ?_ ?_; (focus (first | omega | (dsimp -iota only; omega) | (simp -iota; omega) | (simp -iota; done) | decide)))); conv => whnf)
          refine branchB_of (fun g3 => ?_) (fun g3 => ?_) <;> (first | replace g3 := not_t g3 | replace g3 := not_f g3 | skip) <;> (first | replace g3 := of_decide_eq_true g3 | replace g3 := of_decide_eq_false g3 | skip) <;> (first | replace g3 := Classical.not_not.1 g3 | skip) <;> (try dsimp only at g3)
          · exact absurd rfl g3
          (conv => whnf); repeat ((first | (refine And.intro ?_ ?_; (focus ((repeat' (first | exact trivial | refine And.intro rfl ?_)); done))) | (refine And.intro ?_ ?_; (focus (first | omega | (dsimp -iota only; omega) | (simp -iota; omega) | (simp -iota; done) | decide)))); conv => whnf)
          refine AWP.loop (X := { y : Nat // y ≤ p'.ds.length + 1 }) (fun y => [(1, rowC B), (5, .ptr 0 0), (7, AV.int .u64 n), (9, AV.int .i64 j), (13, AV.int .i64 y.1)]) (fun y => one p'.H) (fun y => p'.ds.length + 1 - y.1) (⟨0, by omega⟩) ?_ fun y => AWP.go (S := []) (cfgOk _ _) (.of_eq (by kernel_rfl)) ?_
          · exact Ent.mk' [some 0] (by kernel_rfl) (by repeat' first | exact trivial | refine And.intro (AVE.refl _) ?_ | refine And.intro (AVE.int (by first | rfl | omega | (dsimp only; omega) | (simp -iota; omega) | (simp -iota; done))) ?_ | refine And.intro (AVE.bool (by assumption)) ?_ | refine And.intro (AVE.len (by first | rfl | omega | (dsimp only; omega) | (simp -iota; omega) | (simp -iota; done))) ?_) (by repeat' (first | exact trivial | refine ⟨⟨_, rfl, ChE.refl _⟩, ?_⟩))
          · obtain ⟨k, hk⟩ := y
            (conv => whnf); repeat ((first | (refine And.intro ?_ ?_; (focus ((repeat' (first | exact trivial | refine And.intro rfl ?_)); done))) | (refine And.intro ?_ ?_; (focus (first | omega | (dsimp -iota only; omega) | (simp -iota; omega) | (simp -iota; done) | decide)))); conv => whnf)
            refine AFn.use [0] (loose_ok p') (by kernel_rfl) rfl (by repeat' first | exact trivial | refine ⟨rfl, ?_⟩) fun _ => ?_
            (conv => whnf); repeat ((first | (refine And.intro ?_ ?_; (focus ((repeat' (first | exact trivial | refine And.intro rfl ?_)); done))) | (refine And.intro ?_ ?_; (focus (first | omega | (dsimp -iota only; omega) | (simp -iota; omega) | (simp -iota; done) | decide)))); conv => whnf)
            refine branchB_of (fun g4 => ?_) (fun g4 => ?_) <;> (first | replace g4 := not_t g4 | replace g4 := not_f g4 | skip) <;> (first | replace g4 := of_decide_eq_true g4 | replace g4 := of_decide_eq_false g4 | skip) <;> (first | replace g4 := Classical.not_not.1 g4 | skip) <;> (try dsimp only at g4)
            · have hq := hp'.crash (k : Int)
              have hqs := hq.now
              obtain ⟨q, hqd⟩ : ∃ q, q = p'.crash (k : Int) := ⟨_, rfl⟩
              have hqn : q.findN kp = n := by rw [← hqd] at hqs; unfold On at hqs; simp [FD.findN, hqs]
              have hqb : q.findB kp = true := by rw [← hqd] at hqs; unfold On at hqs; simp [FD.findB, hqs]
              (conv => whnf); repeat ((first | (refine And.intro ?_ ?_; (focus ((repeat' (first | exact trivial | refine And.intro rfl ?_)); done))) | (refine And.intro ?_ ?_; (focus (first | omega | (dsimp -iota only; omega) | (simp -iota; omega) | (simp -iota; done) | decide)))); conv => whnf)
              refine AFn.use [0] (copy_ok p' (by omega)) (by kernel_rfl) rfl (by repeat' first | exact trivial | refine ⟨rfl, ?_⟩) fun _ => ?_
              (conv => whnf); repeat ((first | (refine And.intro ?_ ?_; (focus ((repeat' (first | exact trivial | refine And.intro rfl ?_)); done))) | (refine And.intro ?_ ?_; (focus (first | omega | (dsimp -iota only; omega) | (simp -iota; omega) | (simp -iota; done) | decide)))); conv => whnf)
              refine AFn.use [1] (crash_ok p' (by omega) (k : Int)) (by kernel_rfl) rfl (by repeat' first | exact trivial | refine ⟨rfl, ?_⟩) fun _ => ?_
              rw [← hqd]
              (conv => whnf); repeat ((first | (refine And.intro ?_ ?_; (focus ((repeat' (first | exact trivial | refine And.intro rfl ?_)); done))) | (refine And.intro ?_ ?_; (focus (first | omega | (dsimp -iota only; omega) | (simp -iota; omega) | (simp -iota; done) | decide)))); conv => whnf)
              refine AFn.use [1] (find_ok q kp) (by kernel_rfl) rfl (by repeat' first | exact trivial | refine ⟨rfl, ?_⟩) fun _ => ?_
              rw [hqn, hqb]
              (conv => whnf); repeat ((first | (refine And.intro ?_ ?_; (focus ((repeat' (first | exact trivial | refine And.intro rfl ?_)); done))) | (refine And.intro ?_ ?_; (focus (first | omega | (dsimp -iota only; omega) | (simp -iota; omega) | (simp -iota; done) | decide)))); conv => whnf)
              refine branchB_of (fun g5 => ?_) (fun g5 => ?_) <;> (first | replace g5 := not_t g5 | replace g5 := not_f g5 | skip) <;> (first | replace g5 := of_decide_eq_true g5 | replace g5 := of_decide_eq_false g5 | skip) <;> (first | replace g5 := Classical.not_not.1 g5 | skip) <;> (try dsimp only at g5)
              · exact absurd rfl g5
              (conv => whnf); repeat ((first | (refine And.intro ?_ ?_; (focus ((repeat' (first | exact trivial | refine And.intro rfl ?_)); done))) | (refine And.intro ?_ ?_; (focus (first | omega | (dsimp -iota only; omega) | (simp -iota; omega) | (simp -iota; done) | decide)))); conv => whnf)
              refine ⟨⟨k + 1, by omega⟩, Ent.mk' [some 0] (by kernel_rfl) (by repeat' first | exact trivial | refine And.intro (AVE.refl _) ?_ | refine And.intro (AVE.int (by first | rfl | omega | (dsimp only; omega) | (simp -iota; omega) | (simp -iota; done))) ?_ | refine And.intro (AVE.bool (by assumption)) ?_ | refine And.intro (AVE.len (by first | rfl | omega | (dsimp only; omega) | (simp -iota; omega) | (simp -iota; done))) ?_) (by repeat' (first | exact trivial | refine ⟨⟨_, rfl, ChE.refl _⟩, ?_⟩)), ?_⟩
              show p'.ds.length + 1 - (k + 1) < p'.ds.length + 1 - k
              omega
            · (conv => whnf); repeat ((first | (refine And.intro ?_ ?_; (focus ((repeat' (first | exact trivial | refine And.intro rfl ?_)); done))) | (refine And.intro ?_ ?_; (focus (first | omega | (dsimp -iota only; omega) | (simp -iota; omega) | (simp -iota; done) | decide)))); conv => whnf)
              refine ⟨⟨j + 1, p', by omega, by omega, hp', by omega, by omega⟩, Ent.mk' [some 0] (by kernel_rfl) (by repeat' first | exact trivial | refine And.intro (AVE.refl _) ?_ | refine And.intro (AVE.int (by first | rfl | omega | (dsimp only; omega) | (simp -iota; omega) | (simp -iota; done))) ?_ | refine And.intro (AVE.bool (by assumption)) ?_ | refine And.intro (AVE.len (by first | rfl | omega | (dsimp only; omega) | (simp -iota; omega) | (simp -iota; done))) ?_) (by repeat' (first | exact trivial | refine ⟨⟨_, rfl, ChE.refl _⟩, ?_⟩)), ?_⟩
              show 60 - (j + 1) < 60 - j
              omega
        · (conv => whnf); repeat ((first | (refine And.intro ?_ ?_; (focus ((repeat' (first | exact trivial | refine And.intro rfl ?_)); done))) | (refine And.intro ?_ ?_; (focus (first | omega | (dsimp -iota only; omega) | (simp -iota; omega) | (simp -iota; done) | decide)))); conv => whnf)
          exact ⟨(), Ent.mk' [] (by kernel_rfl) (by repeat' first | exact trivial | refine And.intro (AVE.refl _) ?_ | refine And.intro (AVE.int (by first | rfl | omega | (dsimp only; omega) | (simp -iota; omega) | (simp -iota; done))) ?_ | refine And.intro (AVE.bool (by assumption)) ?_ | refine And.intro (AVE.len (by first | rfl | omega | (dsimp only; omega) | (simp -iota; omega) | (simp -iota; done))) ?_) (by repeat' (first | exact trivial | refine ⟨⟨_, rfl, ChE.refl _⟩, ?_⟩))⟩
      · (conv => whnf); repeat ((first | (refine And.intro ?_ ?_; (focus ((repeat' (first | exact trivial | refine And.intro rfl ?_)); done))) | (refine And.intro ?_ ?_; (focus (first | omega | (dsimp -iota only; omega) | (simp -iota; omega) | (simp -iota; done) | decide)))); conv => whnf)
        exact ⟨(), Ent.mk' [] (by kernel_rfl) (by repeat' first | exact trivial | refine And.intro (AVE.refl _) ?_ | refine And.intro (AVE.int (by first | rfl | omega | (dsimp only; omega) | (simp -iota; omega) | (simp -iota; done))) ?_ | refine And.intro (AVE.bool (by assumption)) ?_ | refine And.intro (AVE.len (by first | rfl | omega | (dsimp only; omega) | (simp -iota; omega) | (simp -iota; done))) ?_) (by repeat' (first | exact trivial | refine ⟨⟨_, rfl, ChE.refl _⟩, ?_⟩))⟩
  refine AWP.loop (X := K1 A) (fun x => [(0, rowC A), (1, rowC B), (5, .ptr 0 0), (6, AV.int .i64 x.i)]) (fun x => one x.f.H) (fun x => 60 - x.i) (⟨0, ⟨[], [], [], 0⟩, by omega, by omega, ⟨rfl, fun k _ => by cases k <;> exact ⟨rfl, Nat.le_refl _⟩⟩, by simp, by simp⟩) ?_ fun x => AWP.go (S := []) (cfgOk _ _) (.of_eq (by kernel_rfl)) ?_
  · exact Ent.mk' [some 0] (by kernel_rfl) (by repeat' first | exact trivial | refine And.intro (AVE.refl _) ?_ | refine And.intro (AVE.int (by first | rfl | omega | (dsimp only; omega) | (simp -iota; omega) | (simp -iota; done))) ?_ | refine And.intro (AVE.bool (by assumption)) ?_ | refine And.intro (AVE.len (by first | rfl | omega | (dsimp only; omega) | (simp -iota; omega) | (simp -iota; done))) ?_) (by repeat' (first | exact trivial | refine ⟨⟨_, rfl, ChE.refl _⟩, ?_⟩))
  · obtain ⟨i, f, hi, hil, hf, hd, hl⟩ := x
    have hix : ((i : Nat) : Int).toNat = i := by simp
    (conv => whnf); repeat ((first | (refine And.intro ?_ ?_; (focus ((repeat' (first | exact trivial | refine And.intro rfl ?_)); done))) | (refine And.intro ?_ ?_; (focus (first | omega | (dsimp -iota only; omega) | (simp -iota; omega) | (simp -iota; done) | decide)))); conv => whnf)
    refine branchB_of (fun h => ?_) (fun h => ?_) <;> (first | replace h := not_t h | replace h := not_f h | skip) <;> (first | replace h := of_decide_eq_true h | replace h := of_decide_eq_false h | skip) <;> (first | replace h := Classical.not_not.1 h | skip) <;> (try dsimp only at h)
    · (conv => whnf); repeat ((first | (refine And.intro ?_ ?_; (focus ((repeat' (first | exact trivial | refine And.intro rfl ?_)); done))) | (refine And.intro ?_ ?_; (focus (first | omega | (dsimp -iota only; omega) | (simp -iota; omega) | (simp -iota; done) | decide)))); conv => whnf)
      refine branchB_of (fun h2 => ?_) (fun h2 => ?_) <;> (first | replace h2 := not_t h2 | replace h2 := not_f h2 | skip) <;> (first | replace h2 := of_decide_eq_true h2 | replace h2 := of_decide_eq_false h2 | skip) <;> (first | replace h2 := Classical.not_not.1 h2 | skip) <;> (try dsimp only at h2)
      · generalize hc : A.getD i default = c
        have hst := does_sizes f c
        (conv => whnf); repeat ((first | (refine And.intro ?_ ?_; (focus ((repeat' (first | exact trivial | refine And.intro rfl ?_)); done))) | (refine And.intro ?_ ?_; (focus (first | omega | (dsimp -iota only; omega) | (simp -iota; omega) | (simp -iota; done) | decide)))); conv => whnf)
        rw [hix, hc]
        refine branchB_of (fun g1 => ?_) (fun g1 => ?_) <;> (first | replace g1 := not_t g1 | replace g1 := not_f g1 | skip) <;> (first | replace g1 := of_decide_eq_true g1 | replace g1 := of_decide_eq_false g1 | skip) <;> (first | replace g1 := Classical.not_not.1 g1 | skip) <;> (try dsimp only at g1)
        · (conv => whnf); repeat ((first | (refine And.intro ?_ ?_; (focus ((repeat' (first | exact trivial | refine And.intro rfl ?_)); done))) | (refine And.intro ?_ ?_; (focus (first | omega | (dsimp -iota only; omega) | (simp -iota; omega) | (simp -iota; done) | decide)))); conv => whnf)
          rw [hix, hc]
          refine branchB_of (fun g2 => ?_) (fun g2 => ?_) <;> (first | replace g2 := not_t g2 | replace g2 := not_f g2 | skip) <;> (first | replace g2 := of_decide_eq_true g2 | replace g2 := of_decide_eq_false g2 | skip) <;> (first | replace g2 := Classical.not_not.1 g2 | skip) <;> (try dsimp only at g2)
          · (conv => whnf); repeat ((first | (refine And.intro ?_ ?_; (focus ((repeat' (first | exact trivial | refine And.intro rfl ?_)); done))) | (refine And.intro ?_ ?_; (focus (first | omega | (dsimp -iota only; omega) | (simp -iota; omega) | (simp -iota; done) | decide)))); conv => whnf)
            rw [hix, hc]
            refine AFn.use [0] (does_ok f (by omega) (by omega) c) (by kernel_rfl) rfl (by repeat' first | exact trivial | refine ⟨rfl, ?_⟩) fun _ => ?_
            (conv => whnf); repeat ((first | (refine And.intro ?_ ?_; (focus ((repeat' (first | exact trivial | refine And.intro rfl ?_)); done))) | (refine And.intro ?_ ?_; (focus (first | omega | (dsimp -iota only; omega) | (simp -iota; omega) | (simp -iota; done) | decide)))); conv => whnf)
            refine ⟨⟨i + 1, f.does c, by omega, by omega, hf.does (fun m h => ⟨h.1, Nat.le_succ_of_le h.2⟩) (off_step g1 g2), by omega, by omega⟩, Ent.mk' [some 0] (by kernel_rfl) (by repeat' first | exact trivial | refine And.intro (AVE.refl _) ?_ | refine And.intro (AVE.int (by first | rfl | omega | (dsimp only; omega) | (simp -iota; omega) | (simp -iota; done))) ?_ | refine And.intro (AVE.bool (by assumption)) ?_ | refine And.intro (AVE.len (by first | rfl | omega | (dsimp only; omega) | (simp -iota; omega) | (simp -iota; done))) ?_) (by repeat' (first | exact trivial | refine ⟨⟨_, rfl, ChE.refl _⟩, ?_⟩)), ?_⟩
            show 60 - (i + 1) < 60 - i
            omega
          · (conv => whnf); repeat ((first | (refine And.intro ?_ ?_; (focus ((repeat' (first | exact trivial | refine And.intro rfl ?_)); done))) | (refine And.intro ?_ ?_; (focus (first | omega | (dsimp -iota only; omega) | (simp -iota; omega) | (simp -iota; done) | decide)))); conv => whnf)
            refine ⟨⟨i + 1, f, by omega, by omega, hf.mono (fun m h => ⟨h.1, Nat.le_succ_of_le h.2⟩), by omega, by omega⟩, Ent.mk' [some 0] (by kernel_rfl) (by repeat' first | exact trivial | refine And.intro (AVE.refl _) ?_ | refine And.intro (AVE.int (by first | rfl | omega | (dsimp only; omega) | (simp -iota; omega) | (simp -iota; done))) ?_ | refine And.intro (AVE.bool (by assumption)) ?_ | refine And.intro (AVE.len (by first | rfl | omega | (dsimp only; omega) | (simp -iota; omega) | (simp -iota; done))) ?_) (by repeat' (first | exact trivial | refine ⟨⟨_, rfl, ChE.refl _⟩, ?_⟩)), ?_⟩
            show 60 - (i + 1) < 60 - i
            omega
        · (conv => whnf); repeat ((first | (refine And.intro ?_ ?_; (focus ((repeat' (first | exact trivial | refine And.intro rfl ?_)); done))) | (refine And.intro ?_ ?_; (focus (first | omega | (dsimp -iota only; omega) | (simp -iota; omega) | (simp -iota; done) | decide)))); conv => whnf)
          refine ⟨⟨i + 1, f, by omega, by omega, hf.mono (fun m h => ⟨h.1, Nat.le_succ_of_le h.2⟩), by omega, by omega⟩, Ent.mk' [some 0] (by kernel_rfl) (by repeat' first | exact trivial | refine And.intro (AVE.refl _) ?_ | refine And.intro (AVE.int (by first | rfl | omega | (dsimp only; omega) | (simp -iota; omega) | (simp -iota; done))) ?_ | refine And.intro (AVE.bool (by assumption)) ?_ | refine And.intro (AVE.len (by first | rfl | omega | (dsimp only; omega) | (simp -iota; omega) | (simp -iota; done))) ?_) (by repeat' (first | exact trivial | refine ⟨⟨_, rfl, ChE.refl _⟩, ?_⟩)), ?_⟩
          show 60 - (i + 1) < 60 - i
          omega
      · (conv => whnf); repeat ((first | (refine And.intro ?_ ?_; (focus ((repeat' (first | exact trivial | refine And.intro rfl ?_)); done))) | (refine And.intro ?_ ?_; (focus (first | omega | (dsimp -iota only; omega) | (simp -iota; omega) | (simp -iota; done) | decide)))); conv => whnf)
        exact ⟨⟨i, f, hi, hil, hf, hd, hl⟩, Ent.mk' [some 0] (by kernel_rfl) (by repeat' first | exact trivial | refine And.intro (AVE.refl _) ?_ | refine And.intro (AVE.int (by first | rfl | omega | (dsimp only; omega) | (simp -iota; omega) | (simp -iota; done))) ?_ | refine And.intro (AVE.bool (by assumption)) ?_ | refine And.intro (AVE.len (by first | rfl | omega | (dsimp only; omega) | (simp -iota; omega) | (simp -iota; done))) ?_) (by repeat' (first | exact trivial | refine ⟨⟨_, rfl, ChE.refl _⟩, ?_⟩))⟩
    · (conv => whnf); repeat ((first | (refine And.intro ?_ ?_; (focus ((repeat' (first | exact trivial | refine And.intro rfl ?_)); done))) | (refine And.intro ?_ ?_; (focus (first | omega | (dsimp -iota only; omega) | (simp -iota; omega) | (simp -iota; done) | decide)))); conv => whnf)
      exact ⟨⟨i, f, hi, hil, hf, hd, hl⟩, Ent.mk' [some 0] (by kernel_rfl) (by repeat' first | exact trivial | refine And.intro (AVE.refl _) ?_ | refine And.intro (AVE.int (by first | rfl | omega | (dsimp only; omega) | (simp -iota; omega) | (simp -iota; done))) ?_ | refine And.intro (AVE.bool (by assumption)) ?_ | refine And.intro (AVE.len (by first | rfl | omega | (dsimp only; omega) | (simp -iota; omega) | (simp -iota; done))) ?_) (by repeat' (first | exact trivial | refine ⟨⟨_, rfl, ChE.refl _⟩, ?_⟩))⟩
